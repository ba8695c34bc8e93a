/-
 What the claim top_punctual rests on,part 6.
-/
import Derived.Test.YtgoedfonmocafaaGreatZQ5
import Derived.Test.YtgoedfonmocafaaGreatProg
noncomputable section
namespace Go.Proofs.YtgoedfonmocafaaGreat
open Go.Lite
def yhf:List (Nat×Nat×List Nat):=
 [(3,9,[1,3,4,5,11,13,14,15]),
  (3,16,[1,3,4,5,11,13,14,16,17]),
  (3,20,[1,3,4,5,11,13,14,16,17,18,19]),
  (3,32,[1,3,4,5,13,16,23]),
  (3,46,[13,16,29,31,33,34]),
  (4,4,[1,3]),
  (6,7,[1,2,3,5,16]),
  (9,4,[1,26,27,28]),
  (12,8,[1,8,10,28,29]),
  (12,11,[1,8,10,11,28,29,33,34]),
  (12,16,[1,8,10,11,28,29,44,45]),
  (12,19,[1,8,10,11,13,14,28,29,44,45]),
  (12,25,[8,10,61,62]),
  (13,6,[2,7,9,27,28,29]),
  (14,4,[1,3]),
  (14,12,[1,3,4,5]),
  (15,4,[0,1,26,27,28]),
  (15,12,[1,9,10,11,57,58,59]),
  (15,18,[1,9,10,11,12,57,58,59,86,87,88]),
  (15,26,[9,11,16,104,105,106]),
  (16,4,[0,1,5]),
  (17,5,[1,3,24,25,26]),
  (19,4,[2,3,6,7,8,24,25,26]),
  (19,9,[2,6,7,8,45,46]),
  (20,3,[2,3,6,7,15,16,17]),
  (25,5,[2,6,26,27,28]),
  (26,3,[0,1,5,14,15]),
  (27,4,[2,3,52,53,54]),
  (28,3,[2,3,4,5,21,22]),
  (28,8,[2,3,4,5,6,7,21,22,27]),
  (29,8,[2,3,4,7,38,39,40]),
  (31,9,[0,3,5,6,30,31,32]),
  (31,15,[3,5,68,69,70]),
  (31,20,[0,3,5,87,88]),
  (31,23,[0,3,5,11,12,87,88]),
  (33,10,[1,2,7,8,11,69,70,71]),
  (33,20,[1,2,7,11,91,92,93]),
  (40,3,[3,6,7,8]),
  (42,2,[0,1,9,10,11]),
  (44,2,[0,1,3,12,13,14]),
  (44,7,[0,1,3]),
  (44,9,[0,1,3,6]),
  (46,3,[1,5,15,16,17]),
  (47,3,[0,1,6,18,19]),
  (47,9,[0,1,6,8,30,31]),
  (47,12,[0,1,6,8,30,31,36,37,38]),
  (65,3,[0,2,7,10,11,12]),
  (66,3,[0,1,7,10,11]),
  (68,2,[0,1,2,3,8,9]),
  (70,2,[0,1,2,3,4,10,11]),
  (71,2,[0,1,2,6,7,8]),
  (71,7,[0,1,2,6]),
  (71,9,[0,1,2,6,7,8]),
  (76,2,[0,1,7,8]),
  (77,2,[0,1,7,8]),
  (80,3,[0,2,3,9,10,21,22,23]),
  (82,1,[0,2,7,8,9]),
  (84,3,[0,1,2,7,13,14,15]),
  (85,1,[0,1,2,6]),
  (85,4,[0,1,2,6,7]),
  (86,4,[0,6,7,8,9]),
  (86,8,[0,6,7,10]),
  (87,5,[0,1,6,7,8,9]),
  (89,2,[0,6,7]),
  (90,3,[0,1,2,7,8]),
  (90,5,[0,1,2,7,8]),
  (90,14,[0,1,2,7,8,9]),
  (90,20,[0,1,2,7,8,10]),
  (92,3,[0,1,9,10]),
  (92,5,[0,1,9,10]),
  (93,3,[0,1,10,11]),
  (93,5,[0,1,10,11]),
  (93,13,[0,1,10,11]),
  (93,15,[0,1,10,11]),
  (96,1,[0,1,2,3,8]),
  (96,4,[0,1,2,3,8,9]),
  (97,4,[0,3,8,9,10,11]),
  (97,8,[0,3,8,9,12]),
  (98,5,[0,1,8,9,10,11]),
  (100,2,[0,8,9]),
  (101,3,[0,1,2,3,9,10]),
  (101,5,[0,1,2,3,9,10]),
  (101,14,[0,1,2,3,9,10,11]),
  (101,20,[0,1,2,3,9,10,12]),
  (102,3,[0,1,4,11,12]),
  (102,5,[0,1,4,11,12]),
  (103,3,[0,1,4,12,13]),
  (103,5,[0,1,4,12,13]),
  (103,13,[0,1,4,12,13]),
  (103,15,[0,1,4,12,13]),
  (104,3,[0,1,4,10,11]),
  (104,9,[0,10,13]),
  (104,15,[0,2,4,14,15]),
  (104,21,[0,14,17]),
  (104,33,[0,1,2,3,4,18,19,20,21,22]),
  (105,2,[0,1,7,8]),
  (106,1,[0,2,3,8]),
  (111,1,[0,2,3,4,10]),
  (114,2,[0,2,4,10,11]),
  (117,1,[0,1,2,3,10])]
def ygb:List (Nat×Nat×Option Nat×List Nat):=
 [(3,9,some 0,[1,3,4,5,11,13,14]),
  (3,9,none,[10]),
  (3,16,some 2,[1,3,4,5,13,14,16]),
  (3,16,none,[10]),
  (3,20,some 4,[1,3,4,5,11,13,14,16,17,18]),
  (3,20,none,[10]),
  (3,32,some 6,[1,3,4,5,13,16]),
  (3,32,none,[10]),
  (3,46,some 8,[13,16,29,31,33]),
  (3,46,none,[10]),
  (4,4,some 0,[1]),
  (4,4,none,[2]),
  (9,4,some 0,[1]),
  (9,4,none,[2]),
  (12,8,some 0,[1,8,10]),
  (12,8,none,[4,5]),
  (12,11,some 2,[1,8,10,11,28,29]),
  (12,11,none,[4,5]),
  (12,16,some 4,[1,8,10,28,29]),
  (12,16,none,[4,5]),
  (12,19,some 6,[1,8,10,11,28,29,44,45]),
  (12,19,none,[4,5]),
  (12,25,some 8,[8]),
  (12,25,none,[4,5]),
  (13,6,some 0,[]),
  (13,6,none,[6]),
  (14,4,some 0,[]),
  (14,4,none,[2]),
  (14,12,some 2,[1,3]),
  (14,12,none,[2]),
  (15,4,some 0,[0,1]),
  (15,4,none,[4,5,6]),
  (15,12,some 2,[9,10,11]),
  (15,12,none,[4,5,6]),
  (15,18,some 4,[1,9,10,11,57,58,59]),
  (15,18,none,[4,5,6]),
  (15,26,some 6,[11,16]),
  (15,26,none,[4,5,6]),
  (16,4,some 0,[]),
  (16,4,none,[4]),
  (17,5,some 0,[]),
  (17,5,none,[2]),
  (19,4,some 0,[2,6,7,8]),
  (19,4,none,[6,7]),
  (19,4,some 1000000,[6,7]),
  (19,9,some 2,[2,6,7,8]),
  (19,9,none,[6,7]),
  (19,9,some 1000000,[6,7]),
  (20,3,some 0,[6,7]),
  (20,3,none,[6]),
  (25,5,some 0,[6]),
  (25,5,none,[4,5]),
  (26,3,some 0,[5]),
  (26,3,none,[4]),
  (27,4,some 0,[]),
  (27,4,none,[4]),
  (28,3,some 0,[4]),
  (28,3,none,[4]),
  (29,8,some 0,[2,3,4,7]),
  (29,8,none,[]),
  (31,9,some 5,[5]),
  (31,9,none,[4]),
  (31,15,some 7,[5]),
  (31,15,none,[4]),
  (31,20,some 9,[5]),
  (31,20,none,[4]),
  (31,23,some 11,[0,3,5,87,88]),
  (31,23,none,[4]),
  (33,10,some 0,[1,2,7,8,11]),
  (33,10,none,[6]),
  (33,20,some 2,[]),
  (33,20,none,[6]),
  (40,3,some 0,[3]),
  (40,3,none,[2]),
  (42,2,some 0,[0,1]),
  (42,2,none,[4]),
  (44,2,some 0,[0,1,3]),
  (44,2,none,[]),
  (44,7,none,[]),
  (44,9,some 4,[0,1,3,6]),
  (44,9,none,[]),
  (46,3,some 0,[5]),
  (46,3,none,[4]),
  (47,3,some 0,[0,1,6]),
  (47,3,none,[4,5]),
  (47,9,some 2,[6,8]),
  (47,9,none,[4,5]),
  (47,12,some 4,[0,1,6,8,30,31]),
  (47,12,none,[4,5]),
  (65,3,some 0,[7]),
  (65,3,none,[6]),
  (66,3,some 0,[7]),
  (66,3,none,[6]),
  (68,2,none,[]),
  (70,2,none,[]),
  (71,2,some 0,[0,1,2,6,7]),
  (71,2,none,[]),
  (71,7,some 2,[]),
  (71,7,none,[]),
  (71,9,some 4,[0,1,2,6,7]),
  (71,9,none,[]),
  (76,2,some 0,[]),
  (76,2,none,[4]),
  (77,2,some 0,[]),
  (77,2,none,[4]),
  (80,3,some 0,[10]),
  (80,3,none,[8]),
  (82,1,some 0,[]),
  (82,1,none,[]),
  (84,3,some 0,[7]),
  (84,3,none,[6]),
  (85,1,some 0,[]),
  (85,1,none,[]),
  (85,4,some 2,[0,1,2,6]),
  (85,4,none,[]),
  (86,4,some 0,[0,6,7,8]),
  (86,4,none,[]),
  (86,8,some 2,[]),
  (86,8,none,[]),
  (87,5,some 0,[]),
  (87,5,none,[]),
  (89,2,some 0,[]),
  (89,2,none,[]),
  (90,3,some 0,[]),
  (90,3,none,[6]),
  (90,5,some 2,[0,1,2,7,8]),
  (90,5,none,[6]),
  (90,14,some 4,[0,1,2,7,8]),
  (90,14,none,[6]),
  (90,20,some 6,[0,1,2,7,8]),
  (90,20,none,[6]),
  (92,3,some 0,[9]),
  (92,3,none,[8]),
  (92,5,some 4,[0,1,9,10]),
  (92,5,none,[8]),
  (93,3,some 0,[0,1,10,11]),
  (93,3,none,[8,9]),
  (93,5,some 2,[0,1,10,11]),
  (93,5,none,[8,9]),
  (93,13,some 4,[0,1,11]),
  (93,13,none,[8,9]),
  (93,15,some 8,[0,1,10,11]),
  (93,15,none,[8,9]),
  (96,1,some 0,[]),
  (96,1,none,[]),
  (96,4,some 2,[0,1,2,3,8]),
  (96,4,none,[]),
  (97,4,some 0,[0,3,8,9,10]),
  (97,4,none,[]),
  (97,8,some 2,[]),
  (97,8,none,[]),
  (98,5,some 0,[]),
  (98,5,none,[]),
  (100,2,some 0,[]),
  (100,2,none,[]),
  (101,3,some 0,[]),
  (101,3,none,[8]),
  (101,5,some 2,[0,1,2,3,9,10]),
  (101,5,none,[8]),
  (101,14,some 4,[0,1,2,3,9,10]),
  (101,14,none,[8]),
  (101,20,some 6,[0,1,2,3,9,10]),
  (101,20,none,[8]),
  (102,3,some 0,[11]),
  (102,3,none,[10]),
  (102,5,some 4,[0,1,4,11,12]),
  (102,5,none,[10]),
  (103,3,some 0,[0,1,4,12,13]),
  (103,3,none,[10,11]),
  (103,5,some 2,[0,1,4,12,13]),
  (103,5,none,[10,11]),
  (103,13,some 4,[0,1,13]),
  (103,13,none,[10,11]),
  (103,15,some 8,[0,1,4,12,13]),
  (103,15,none,[10,11]),
  (104,3,some 0,[0,1,10]),
  (104,3,none,[]),
  (104,9,some 2,[]),
  (104,9,none,[]),
  (104,15,some 4,[0,2,14]),
  (104,15,none,[]),
  (104,21,some 6,[]),
  (104,21,none,[]),
  (104,33,some 8,[0,1,2,3,4,18,19,20]),
  (104,33,none,[]),
  (105,2,some 0,[]),
  (105,2,none,[4]),
  (106,1,some 0,[]),
  (106,1,none,[]),
  (111,1,some 0,[]),
  (111,1,none,[]),
  (114,2,some 0,[0,2,4,10]),
  (114,2,none,[]),
  (117,1,some 0,[]),
  (117,1,none,[])]
def ygc (f:FuncId) (k:Nat):Option (List Nat):=(yhf.find? fun x=>x.1 == f && x.2.1 == k).map (·.2.2)
def yd8 (f:FuncId) (k:Nat) (e:Option Nat):Option (List Nat):=(ygb.find? fun x=>x.1 == f && x.2.1 == k && x.2.2.1 == e).map (·.2.2.2)
def wrL:List (Nat×List Bool):=[(18,[true]),(20,[false,false,true]),(47,[false,true]),(46,[true,true]),(135,[true]),(61,[true,true]),(12,[true,true]),(25,[true,true]),(29,[true,true,true,true]),(32,[true]),(68,[true]),(85,[true]),(36,[true]),(38,[true]),(70,[true]),(71,[true]),(96,[true])]
def yge (f:FuncId):List Bool:=((wrL.find? fun x=>x.1 == f).map (·.2)).getD []
def yf9 (o:Oper):List Nat:=match o.op with
 | .buildSlice t _ ps=>if t=46 && o.dst == some 176 then [5017175] else if t=59 then ps.toList.filterMap fun p=>match p.2 with
   | .tmp t=>some t
   | _=>none
   else []
 | .assign (.const _)=>if o.dst == some 23 then [13] else []
 | .load t _=>if t=39 && o.dst == some 250 then [1000016] else []
 | _=>[]
noncomputable def C:Cfg:={ P:=Tryz.prog,ty:=xcc Tryz.prog,wr:=yge,ann:=ygc,annX:=yd8,fuel:=2 ^ 64,frz:=fun _=>false,give:=fun f k=>f == 6 && k == 7,ext:=fun _=>none,alts:=fun t=>if t=118 then [150,152,155] else [],fzo:=yf9 }
theorem own:ownKnob Tryz.prog.godebug=none:=by kernel_rfl
theorem yf5:C.P.follows .mixedOrders=true:=by kernel_rfl
def yd1 (fn:Func):Bool:=match fn.body with
 | none=>true
 | some c => fn.name != "runtime.NumGoroutine" && xdq c
theorem yga:Tryz.prog.funcs.toList.all yd1=true:=by kernel_rfl
theorem xAw {f : FuncId} {fn : Func} {c : Code} (h : Tryz.prog.funcs[f]? = some fn) (hb : fn.body = some c) : fn.name ≠ "runtime.NumGoroutine" /\ xdq c = true := by
 have hm:fn∈Tryz.prog.funcs:=Array.mem_of_getElem? h;have:=List.all_eq_true.1 yga fn (by simpa using hm);unfold yd1 at this;rw [hb] at this;simpa using this
theorem xY3 (n:Nat):xf3 C.P (xbv C n):=by
 refine xVd (C:=C) ?_ ?_ yf5 ?_ ?_ n
 ·intro t T h;dsimp only [C] at h ⊢;exact h
 ·intro f E h
  delta C at h
  cases h
 ·intro f fn h hb;obtain ⟨c,hc⟩:=Option.isSome_iff_exists.1 hb;exact (xAw h hc).1
 ·exact fun f fn c h hb=>(xAw h hb).2
set_option maxRecDepth 100000
theorem hC:∀ t Y,C.ty t=some Y->xcc C.P t=some Y:=by
 intro t Y h;dsimp only [C] at h ⊢;exact h
theorem xa9:C.fuel=18446744073709551616:=by kernel_rfl
theorem xdg:big=4611686018427387904:=rfl
theorem xd0 {x a b:Int}:Lite.xa0 x a b=decide (a<=x/\x<=b):=by simp [Lite.xa0]
section
variable {α:Type} {p:Nat->Bool} {i len:Nat} {rt rf r:α}
theorem xet (h:(T.ite (xay p i (len - i)) (.leaf rt) (.leaf rf)).run=some r) (hlt:i<len):(p i=false->some rf=some r)/\(p i=true->(T.ite (xay p (i+1) (len - (i+1))) (.leaf rt) (.leaf rf)).run=some r):=by
 rw [show len - i=(len - (i+1))+1 by omega] at h;simp only [xay] at h;refine ⟨fun hp=>?_,fun hp=>?_⟩
 ·rw [hp,Bool.false_and] at h;exact h
 ·rw [hp,Bool.true_and] at h;exact h
theorem xmx (h:(T.ite (xay p i (len - i)) (.leaf rt) (.leaf rf)).run=some r) (hge:¬ i<len):some rt=some r:=by
 rw [show len - i=0 by omega] at h;exact h
end
section
variable {p:Nat->Bool} {i len:Nat} {ro r:Ex×List D}
theorem xA5 (h:(T.ite (decide (xbx p i (len - i)>=0)) (.leaf (.ret,[.i (xbx p i (len - i))])) (.leaf ro)).run=some r) (hlt:i<len) :
    (p i=true->some (Ex.ret,[D.i (i:Int)])=some r)/\(p i=false->(T.ite (decide (xbx p (i+1) (len - (i+1))>=0)) (.leaf (.ret,[.i (xbx p (i+1) (len - (i+1)))])) (.leaf ro)).run=some r):=by
 rw [show len - i=(len - (i+1))+1 by omega] at h;simp only [xbx] at h;refine ⟨fun hp=>?_,fun hp=>?_⟩
 ·simp only [hp,if_true,xa5,xd7] at h;rw [if_pos (by simp)] at h;exact h
 ·simp only [hp,Bool.false_eq_true,if_false] at h;exact h
theorem xEm (h:(T.ite (decide (xbx p i (len - i)>=0)) (.leaf (.ret,[.i (xbx p i (len - i))])) (.leaf ro)).run=some r) (hge:¬ i<len):some ro=some r:=by
 rw [show len - i=0 by omega] at h;simp only [xbx,xa5,xd7] at h;rw [if_neg (by simp)] at h;exact h
end
theorem xar {C:Cfg} {tab:Tab} {f:FuncId} {b:Code} {k:Nat} {s:LSig} {j:D} {n:Int} {r:List D} (h:j.I=n) (hs:2<=s.head.length):xal C tab f b k s (j::r)=xal C tab f b k s (.i n::r):=by
 obtain ⟨live,head,exits⟩:=s
 match head,hs with
 | a::b::c,_=>simp only [xal,xoc,xil,xck,List.headD_cons,List.tail_cons,I_i,h]
theorem xI9:(Tryz.prog.types[3].bytes:Int)=8:=by kernel_rfl
theorem xJa:Tryz.prog.types[121].bytes=24:=by kernel_rfl
abbrev kCs:SK:=.k (.ro [.int .i64,.ro [.int .i64],.ro [.int .i64,.int .i64,.bool,.int .i64]])
abbrev kWs:SK:=.k (.ro [.int .i64,.int .i64,.int .i64,.int .i64,.bool,.int .i64,.int .i64,.ro [.int .i64,.int .i64,.int .i64]])
abbrev kTs:SK:=.k (.ro [.int .i64,.int .i64,.int .i64,.int .i64,.ro [.int .i64]])
abbrev kIs:SK:=.k (.ro [.int .i64,.int .i64,.int .i64,.bool])
abbrev kLs:SK:=.k (.ro [.int .i64,.int .i64,.bool,.int .i64])
abbrev kRo:SK:=.k (.ro [.int .i64])
abbrev kBo:SK:=.k .bool
abbrev kIn:SK:=.k (.int .i64)
abbrev bCs:BK:=.row [.int .i64,.ro [.int .i64],.ro [.int .i64,.int .i64,.bool,.int .i64]]
abbrev bTs:BK:=.row [.int .i64,.int .i64,.int .i64,.int .i64,.ro [.int .i64]]
abbrev bIs:BK:=.row [.int .i64,.int .i64,.int .i64,.bool]
abbrev bLs:BK:=.row [.int .i64,.int .i64,.bool,.int .i64]
abbrev bKs:BK:=.row [.int .i64,.int .i64,.int .i64]
abbrev bRo:BK:=.row [.int .i64]
abbrev bMp:BK:=.map true [.int .i64,.int .i64,.int .i64] (.int .i64)
abbrev pPl:List SK:=[kIs,kIn,kIn,kIn,kIn,kIn,kRo,kBo,kIn,kIn,kIn,kIn,kRo,kRo]
abbrev bPl:BK:=.box pPl
abbrev aPl:SK:=.agg pPl
def s23:Sig:=⟨[kIn,kIn,kIn],[(kBo,[])]⟩
def s52:Sig:=⟨[kIn,.eptr [kIn]],[(kBo,[])]⟩
def xM8:Sig:=⟨[kRo,.fn 52 [] [.eptr [kIn]]],[(kIn,[])]⟩
def xvw:LSig:=xcu [0,1,7,8] [(19,[(0,kRo),(1,.fn 52 [] [.eptr [kIn]]),(7,kIn),(8,kIn)],[])] [(.ret,[4],[(19,[(4,kIn)],[])]),(.exit 0,[],[(19,[],[])])]
def xM9:Sig:=⟨[kRo,.fn 52 [] [.eptr [kIn]]],[(kBo,[])]⟩
def s24:Sig:=⟨[kRo,kIn,kIn,kIn],[(kBo,[])]⟩
def s60:Sig:=⟨[.agg [kIn,kIn,kIn,kBo],.agg [kIn,kIn,kBo,kIn]],[(kBo,[])]⟩
def s83:Sig:=⟨[aPl,.agg [kIn,kRo,kLs],kIn],[(kIn,[])]⟩
def s62:Sig:=⟨[aPl,.agg [kIn,kRo,kLs],kIn],[(.tup [kIn,kIn],[])]⟩
def s9:Sig:=⟨[aPl],[(kIn,[])]⟩
def xOo:LSig:=xcu [1,26,27,28] [(147,[(1,.ptr 0 14 0 0),(26,kIs),(27,kIn),(28,kIn)],[bPl])] [(.ret,[2],[(147,[(2,kIn)],[])]),(.exit 0,[1],[(147,[(1,.ptr 0 14 0 0)],[bPl])])]
def s27:Sig:=⟨[aPl,.agg [kIn,kRo,kLs]],[(kIn,[])]⟩
def xF0:LSig:=xcu [2,3,52,53,54] [(104,[(2,.ptr 0 14 0 0),(3,.ptr 1 3 0 0),(52,kLs),(53,kIn),(54,kIn)],[bPl,.box [kIn,kRo,kLs]])] [(.ret,[4],[(104,[(4,kIn)],[])]),(.exit 0,[],[(104,[],[])])]
def s54:Sig:=⟨[.agg [kIn,kRo,kLs],.eptr [kIs,kIn,kIn,kIn,kIn,kIn,kRo,kBo,kIn,kIn,kIn,kIn,kRo,kRo]],[(kBo,[])]⟩
def s77:Sig:=⟨[kCs,.fn 54 [] [.eptr [kIs,kIn,kIn,kIn,kIn,kIn,kRo,kBo,kIn,kIn,kIn,kIn,kRo,kRo]]],[(kIn,[])]⟩
def xFp:LSig:=xcu [0,1,7,8] [(19,[(0,kCs),(1,.fn 54 [] [.eptr [kIs,kIn,kIn,kIn,kIn,kIn,kRo,kBo,kIn,kIn,kIn,kIn,kRo,kRo]]),(7,kIn),(8,kIn)],[])] [(.ret,[4],[(19,[(4,kIn)],[])]),(.exit 0,[],[(19,[],[])])]
def s53:Sig:=⟨[kCs,.fn 54 [] [.eptr [kIs,kIn,kIn,kIn,kIn,kIn,kRo,kBo,kIn,kIn,kIn,kIn,kRo,kRo]]],[(kBo,[])]⟩
noncomputable section
def xd8 (l:List (List D)) (j:Nat):Int:=ix (l.getD j []) 1
def xAq (l:List (List D)) (j:Nat):Prop:=ix (l.getD j []) 0=1/\0<=ix (l.getD j []) 2/\ix (l.getD j []) 2<=1440/\bx (l.getD j []) 3=false/\0<=xd8 l j/\xd8 l j<6/\(j=0->xd8 l j=0)/\(0<j->xd8 l j=xd8 l (j - 1)\/xd8 l j=xd8 l (j - 1)+1)
def xan (l:List (List D)) (c la ea ml ll:Int) (ju:List (List D)) (re:Bool) (mi no pe po:Int) (pt ex:List (List D)):Prop:=
 ((1<=l.length/\l.length<=6)/\∀ j,j<l.length->xAq l j)/\(c=1/\0<=la/\la<=1000000/\0<=ea/\ea<=1000000)/\(ml=1440/\ll=1440)/\ju=[[.i 0]]/\re=false/\(mi=0/\no=1/\pe=100/\po = -1)/\pt=[]/\ex=[]
def xkd (l s m:List (List D)) (j:Nat):Int:=
 if 0<j/\xd8 l (j - 1)=xd8 l j then ix (m.getD (j - 1) []) 0+ix (l.getD j []) 2 else ix (s.getD (xd8 l j).toNat []) 0+ix (l.getD j []) 2
def xpv (l s m:List (List D)):Int:=ix (m.getD (l.length - 1) []) 0 - xkd l s m (l.length - 1)
def yf6 (m:List (List D)) (j:Nat):Prop:=0<=ix (m.getD j []) 0/\ix (m.getD j []) 0<=100000/\ix (m.getD j []) 1=0/\bx (m.getD j []) 2=false/\ix (m.getD j []) 3=0
def xdl (l:List (List D)) (cl:Int) (s m:List (List D)):Prop:=
 (cl=0/\(s.length:Int)=xd8 l (l.length - 1)+1)/\(∀ j,j<s.length->0<=ix (s.getD j []) 0/\ix (s.getD j []) 0<=100000)/\m.length=l.length/\(∀ j,j<m.length->yf6 m j) /\
 (∀ j,j+1<l.length->ix (m.getD j []) 0=xkd l s m j)/\(0<=xpv l s m/\xpv l s m<=1000)
def byI (l s m:List (List D)) (j:Nat):Int:=if j+1=l.length then xpv l s m else 0
def xh4 (l cs:List (List D)) (k:Nat):Prop:=xdl l (ix (cs.getD k []) 0) (lx (cs.getD k []) 1) (lx (cs.getD k []) 2)
def inB (l:List (List D)) (m:Int):Prop:=l.length<=10/\∀ j,j<l.length->0<=ix (l.getD j []) 0/\ix (l.getD j []) 0<=m
def G23 (ds:List D):T (List D):=match ds with
 | [a,b,c]=>.leaf [.b (xa0 a.I b.I c.I)]
 | _=>.fail
def G52 (ds:List D):T (List D):=match ds with
 | [a,m]=>.leaf [.b (!xa0 a.I 0 m.I)]
 | _=>.fail
def xC1 (ds:List D):T (Ex×List D):=match ds with
 | [l,m,n,i]=>.need (yes (inB l.L m.I/\n.I=l.L.length/\0<=i.I/\i.I<=l.L.length)) (.leaf (.exit 0,[]))
 | _=>.fail
def xPw (ds:List D):T (List D):=match ds with
 | [l,m]=>.need (yes (inB l.L m.I)) (.leaf [.i (-1)])
 | _=>.fail
def xPx (ds:List D):T (List D):=match ds with
 | [l,m]=>.need (yes (inB l.L m.I)) (.leaf [.b false])
 | _=>.fail
def G24 (ds:List D):T (List D):=match ds with
 | [l,a,b,m]=>.need (yes (inB l.L m.I/\a.I<=l.L.length/\(l.L.length:Int)<=b.I)) (.leaf [.b true])
 | _=>.fail
def G60 (ds:List D):T (List D):=match ds with
 | [k,_,_,_,m,z,q,r]=>.need (yes (k.I=1/\0<=m.I/\m.I<=100000/\z.I=0/\q.B=false/\r.I=0)) (.leaf [.b true])
 | _=>.fail
def G83 (ds:List D):T (List D):=match ds with
 | [l,c,la,ea,ml,ll,ju,re,mi,no,pe,po,pt,ex,cl,s,m,j]=>.need (yes (xan l.L c.I la.I ea.I ml.I ll.I ju.L re.B mi.I no.I pe.I po.I pt.L ex.L/\xdl l.L cl.I s.L m.L/\0<=j.I/\j.I<l.L.length)) (.leaf [.i (xkd l.L s.L m.L j.I.toNat)])
 | _=>.fail
def G62 (ds:List D):T (List D):=match ds with
 | [l,c,la,ea,ml,ll,ju,re,mi,no,pe,po,pt,ex,cl,s,m,j]=>.need (yes (xan l.L c.I la.I ea.I ml.I ll.I ju.L re.B mi.I no.I pe.I po.I pt.L ex.L/\xdl l.L cl.I s.L m.L/\0<=j.I/\j.I<l.L.length)) (.leaf [.i (if 0<byI l.L s.L m.L j.I.toNat then 1 else 0),.i (byI l.L s.L m.L j.I.toNat)])
 | _=>.fail
def xPn (ds:List D):T (Ex×List D):=match ds with
 | [l',n,i,l,c,la,ea,ml,ll,ju,re,mi,no,pe,po,pt,ex]=>(.need (yes (xan l.L c.I la.I ea.I ml.I ll.I ju.L re.B mi.I no.I pe.I po.I pt.L ex.L/\l'.L=l.L/\n.I=l.L.length/\0<=i.I/\i.I<=l.L.length)) (.leaf (.exit 0,[.l l.L,.i c.I,.i la.I,.i ea.I,.i ml.I,.i ll.I,.l ju.L,.b re.B,.i mi.I,.i no.I,.i pe.I,.i po.I,.l pt.L,.l ex.L])))
 | _=>.fail
def G9 (ds:List D):T (List D):=match ds with
 | [l,c,la,ea,ml,ll,ju,re,mi,no,pe,po,pt,ex]=>.need (yes (xan l.L c.I la.I ea.I ml.I ll.I ju.L re.B mi.I no.I pe.I po.I pt.L ex.L)) (.leaf [.i 0])
 | _=>.fail
def xGf (ds:List D):T (Ex×List D):=match ds with
 | [m',n,i,l,c,la,ea,ml,ll,ju,re,mi,no,pe,po,pt,ex,cl,s,m]=>(.need (yes (xan l.L c.I la.I ea.I ml.I ll.I ju.L re.B mi.I no.I pe.I po.I pt.L ex.L/\xdl l.L cl.I s.L m.L/\m'.L=m.L/\n.I=m.L.length/\0<=i.I/\i.I<=m.L.length)) (.leaf (.exit 0,[])))
 | _=>.fail
def G27 (ds:List D):T (List D):=match ds with
 | [l,c,la,ea,ml,ll,ju,re,mi,no,pe,po,pt,ex,cl,s,m]=>.need (yes (xan l.L c.I la.I ea.I ml.I ll.I ju.L re.B mi.I no.I pe.I po.I pt.L ex.L/\xdl l.L cl.I s.L m.L)) (.leaf [.i 0])
 | _=>.fail
def G54 (ds:List D):T (List D):=match ds with
 | [cl,s,m,l,c,la,ea,ml,ll,ju,re,mi,no,pe,po,pt,ex]=>.need (yes (xan l.L c.I la.I ea.I ml.I ll.I ju.L re.B mi.I no.I pe.I po.I pt.L ex.L/\xdl l.L cl.I s.L m.L)) (.leaf [.b false])
 | _=>.fail
def xPp (ds:List D):T (Ex×List D):=match ds with
 | [cs,l,c,la,ea,ml,ll,ju,re,mi,no,pe,po,pt,ex,n,i]=>.need (yes (xan l.L c.I la.I ea.I ml.I ll.I ju.L re.B mi.I no.I pe.I po.I pt.L ex.L/\(cs.L.length<=12/\∀ k,k<cs.L.length->xh4 l.L cs.L k)/\n.I=cs.L.length/\0<=i.I/\i.I<=cs.L.length)) (.leaf (.exit 0,[]))
 | _=>.fail
def G77 (ds:List D):T (List D):=match ds with
 | [cs,l,c,la,ea,ml,ll,ju,re,mi,no,pe,po,pt,ex]=>.need (yes (xan l.L c.I la.I ea.I ml.I ll.I ju.L re.B mi.I no.I pe.I po.I pt.L ex.L/\(cs.L.length<=12/\∀ k,k<cs.L.length->xh4 l.L cs.L k))) (.leaf [.i (-1)])
 | _=>.fail
def G53 (ds:List D):T (List D):=match ds with
 | [cs,l,c,la,ea,ml,ll,ju,re,mi,no,pe,po,pt,ex]=>.need (yes (xan l.L c.I la.I ea.I ml.I ll.I ju.L re.B mi.I no.I pe.I po.I pt.L ex.L/\(cs.L.length<=12/\∀ k,k<cs.L.length->xh4 l.L cs.L k))) (.leaf [.b false])
 | _=>.fail
end
def ybc:SpL:=[]
def ydm:LpL:=[]
def yah:SwL:=[]
def ye0:Tab:=xah ybc ydm yah
def ya2:SpL:=[(23,mkF s23 G23)]
def ydc:LpL:=[]
def xZ7:SwL:=[]
def yep:Tab:=xah ya2 ydc xZ7
def xzf:SpL:=[(52,mkF s52 G52)]
def xz5:LpL:=[(2,mkL xvw xC1)]
def xy4:SwL:=[]
def xK6:Tab:=xah xzf xz5 xy4
def xQu:SpL:=[(76,mkF xM8 xPw),(52,mkF s52 G52)]
def xRr:LpL:=[]
def xQo:SwL:=[]
def xW6:Tab:=xah xQu xRr xQo
def ybb:SpL:=[(23,mkF s23 G23),(51,mkF xM9 xPx),(52,mkF s52 G52)]
def ydl:LpL:=[]
def yag:SwL:=[]
def yez:Tab:=xah ybb ydl yag
def yaw:SpL:=[(23,mkF s23 G23)]
def yc6:LpL:=[]
def xZ1:SwL:=[]
def yej:Tab:=xah yaw yc6 xZ1
def yao:SpL:=[]
def ycy:LpL:=[]
def xZt:SwL:=[]
def yeb:Tab:=xah yao ycy xZt
def yau:SpL:=[(83,mkF s83 G83)]
def yc4:LpL:=[]
def xZz:SwL:=[]
def yeh:Tab:=xah yau yc4 xZz
def sp9:SpL:=[(23,mkF s23 G23),(24,mkF s24 G24)]
def lp9:LpL:=[(4,mkL xOo xPn)]
def sw9:SwL:=[]
def xZf:Tab:=xah sp9 lp9 sw9
def xM2:SpL:=[(9,mkF s9 G9),(23,mkF s23 G23),(24,mkF s24 G24),(60,mkF s60 G60)]
def xOh:LpL:=[(4,mkL xF0 xGf)]
def xMs:SwL:=[]
def xWa:Tab:=xah xM2 xOh xMs
def ya0:SpL:=[(27,mkF s27 G27)]
def yda:LpL:=[]
def xZ5:SwL:=[]
def yen:Tab:=xah ya0 yda xZ5
def xMz:SpL:=[(54,mkF s54 G54)]
def xOe:LpL:=[(2,mkL xFp xPp)]
def xMp:SwL:=[]
def xV7:Tab:=xah xMz xOe xMp
def ya1:SpL:=[(77,mkF s77 G77),(54,mkF s54 G54)]
def ydb:LpL:=[]
def xZ6:SwL:=[]
def yeo:Tab:=xah ya1 ydb xZ6
set_option linter.unusedVariables false
set_option maxRecDepth 100000
theorem t23 (a b c:D):(fnT C ye0 23 s23 [a,b,c]).run =
 T.run (T.ite (decide (a.I>=b.I)) (T.leaf [D.b (decide (a.I<=c.I))]) (T.leaf [D.b false])):=by kernel_rfl
theorem t52 (a b:D):(fnT C yep 52 s52 [a,b]).run =
 T.run (T.leaf [D.b !xa0 a.I (0:Int) b.I]):=by kernel_rfl
theorem yfi (a b:D):(fnT C xK6 76 xM8 [a,b]).run =
 T.run (T.need (yes (inB a.L b.I/\(a.L.length:Int)=(a.L.length:Int)/\(0:Int)<=(0:Int)/\(0:Int)<=(a.L.length:Int))) (T.leaf [D.i (-1:Int)])):=by kernel_rfl
theorem xXk (a b c d:D):(xb4 C xK6 76 (xaa C.P 76 2) xvw [a,b,c,d]).run =
 T.run (T.ite (decide (d.I<c.I)) (T.need (decide ((0:Int)<=d.I/\d.I<(a.L.length:Int))) (T.ite (!xa0 (D.I (List.getD (List.getD a.L d.I.toNat []) 0 default)) (0:Int) b.I) (T.leaf (Rd.out Ex.ret [D.i d.I])) (T.leaf (Rd.again [D.l a.L,D.i b.I,D.i c.I,D.i (IntKind.i64.wrap (d.I+(1:Int)))])))) (T.leaf (Rd.out (Ex.exit 0) []))):=by kernel_rfl
theorem yfj (a b:D):(fnT C xW6 51 xM9 [a,b]).run =
 T.run (T.need (yes (inB a.L b.I)) (T.leaf [D.b false])):=by kernel_rfl
theorem t24 (a b c d:D):(fnT C yez 24 s24 [a,b,c,d]).run =
 T.run (T.ite (xa0 (a.L.length:Int) b.I c.I) (T.need (yes (inB a.L d.I)) (T.leaf [D.b true])) (T.leaf [D.b false])):=by kernel_rfl
theorem t60 (a b c d e f g h:D) :
 let X1:=T.ite (!a.I == (1:Int)) (T.leaf [D.b (decide (f.I > (0:Int)))]) (T.leaf [D.b false]);(fnT C yej 60 s60 [a,b,c,d,e,f,g,h]).run =
 T.run (T.ite (!xa0 e.I (0:Int) (100000:Int)) (T.leaf [D.b false]) (T.ite (!xa0 f.I (0:Int) (36000000:Int)) (T.leaf [D.b false]) (T.ite (h.I == (0:Int)) (T.ite (a.I == (1:Int)) (T.ite (f.I == (0:Int)) (T.ite (!g.B) (T.leaf [D.b true]) X1) X1) X1) (T.ite (h.I == (1:Int)) (T.ite (!a.I == (1:Int)) (T.leaf [D.b (f.I == (0:Int))]) (T.leaf [D.b false])) (T.ite (h.I == (2:Int)) (T.ite (e.I == (0:Int)) (T.ite (f.I == (0:Int)) (T.leaf [D.b !g.B]) (T.leaf [D.b false])) (T.leaf [D.b false])) (T.leaf [D.b false])))))):=by
 intros
 kernel_rfl
theorem t83 (a b c d e f g h i j k l m n o p q r:D) :
 let X2:=(decide ((0:Int)<=r.I/\r.I<(a.L.length:Int)));let X3:=(Int.toNat (IntKind.i64.wrap (r.I - (1:Int))));let X1:=T.need (decide ((0:Int)<=D.I (List.getD (List.getD a.L r.I.toNat []) (0+1) default)/\D.I (List.getD (List.getD a.L r.I.toNat []) (0+1) default)<(p.L.length:Int))) (T.need X2 (T.leaf [D.i (IntKind.i64.wrap (D.I (List.getD (List.getD p.L (Int.toNat (D.I (List.getD (List.getD a.L r.I.toNat []) (0+1) default))) []) 0 default)+D.I (List.getD (List.getD a.L r.I.toNat []) (0+1+1) default)))]));(fnT C yeb 83 s83 [a,b,c,d,e,f,g,h,i,j,k,l,m,n,o,p,q,r]).run =
 T.run (T.need X2 (T.ite (decide (r.I > (0:Int))) (T.need (decide ((0:Int)<=IntKind.i64.wrap (r.I - (1:Int))/\IntKind.i64.wrap (r.I - (1:Int))<(a.L.length:Int))) (T.ite (D.I (List.getD (List.getD a.L X3 []) (0+1) default) == D.I (List.getD (List.getD a.L r.I.toNat []) (0+1) default)) (T.need (decide ((0:Int)<=IntKind.i64.wrap (r.I - (1:Int))/\IntKind.i64.wrap (r.I - (1:Int))<(q.L.length:Int))) (T.need X2 (T.leaf [D.i (IntKind.i64.wrap (D.I (List.getD (List.getD q.L X3 []) 0 default)+D.I (List.getD (List.getD a.L r.I.toNat []) (0+1+1) default)))]))) X1)) X1)):=by
 intros
 kernel_rfl
theorem t62 (a b c d e f g h i j k l m n o p q r:D) :
 let X1:=D.I (List.getD (List.getD q.L r.I.toNat []) 0 default) - xkd a.L p.L q.L r.I.toNat;let X2:=(decide ((0:Int)<=r.I/\r.I<(q.L.length:Int)));let X3:=T.leaf [D.i 0,D.i 0];(fnT C yeh 62 s62 [a,b,c,d,e,f,g,h,i,j,k,l,m,n,o,p,q,r]).run =
 T.run (T.need (decide ((0:Int)<=r.I/\r.I<(a.L.length:Int))) (T.ite (D.I (List.getD (List.getD a.L r.I.toNat []) 0 default) != (1:Int)) X3 (T.need X2 (T.ite (D.I (List.getD (List.getD q.L r.I.toNat []) (0+1+1+1) default) == (2:Int)) X3 (T.need X2 (T.need (yes (xan a.L b.I c.I d.I e.I f.I g.L h.B i.I j.I k.I l.I m.L n.L/\xdl a.L o.I p.L q.L/\(0:Int)<=r.I/\r.I<(a.L.length:Int))) (T.ite (decide (IntKind.i64.wrap X1 > (0:Int))) (T.leaf [D.i 1,D.i (IntKind.i64.wrap X1)]) (T.ite (decide (IntKind.i64.wrap X1<(0:Int))) (T.leaf [D.i 2,D.i (IntKind.i64.wrap ((0:Int) - IntKind.i64.wrap X1))]) X3)))))))):=by
 intros
 kernel_rfl
set_option linter.unusedVariables false
set_option maxRecDepth 100000
theorem t9 (a b c d e f g h i j k l m n:D) :
 let X1:=List.take (List.length [[D.i c.I],[D.i d.I],[D.i i.I]]) [[D.i c.I],[D.i d.I],[D.i i.I]];let X2:=List.take (List.length [[D.i e.I],[D.i f.I]]) [[D.i e.I],[D.i f.I]];(fnT C xZf 9 s9 [a,b,c,d,e,f,g,h,i,j,k,l,m,n]).run =
 T.run (T.ite (!xa0 (a.L.length:Int) (1:Int) (100:Int)) (T.leaf [D.i 2]) (T.ite (!xa0 b.I (1:Int) (20:Int)) (T.leaf [D.i 2]) (T.need (decide ((0:Int)<=(0:Int)/\(0:Int)<(a.L.length:Int))) (T.ite (D.I (List.getD (List.getD a.L (Int.toNat (0:Int)) []) (0+1) default) != (0:Int)) (T.leaf [D.i 2]) (T.need (yes (xan a.L b.I c.I d.I e.I f.I g.L h.B i.I j.I k.I l.I m.L n.L/\a.L=a.L/\(a.L.length:Int)=(a.L.length:Int)/\(0:Int)<=(0:Int)/\(0:Int)<=(a.L.length:Int))) (T.need (yes (inB X1 (36000000:Int)/\(3:Int)<=(↑(List.length X1):Int)/\(↑(List.length X1):Int)<=(3:Int))) (T.need (yes (inB X2 (1440:Int)/\(2:Int)<=(↑(List.length X2):Int)/\(↑(List.length X2):Int)<=(2:Int))) (T.need (yes (inB g.L (36000000:Int)/\(1:Int)<=(g.L.length:Int)/\(g.L.length:Int)<=(10:Int))) (T.ite (decide (j.I<(1:Int))) (T.leaf [D.i 2]) (T.ite (decide (j.I > (4:Int))) (T.leaf [D.i 2]) (T.ite (!xa0 k.I (100:Int) (1000:Int)) (T.leaf [D.i 2]) (T.need (yes (inB m.L (1000:Int)/\(0:Int)<=(m.L.length:Int)/\(m.L.length:Int)<=(60:Int))) (T.need (yes (inB n.L (1000:Int)/\(0:Int)<=(n.L.length:Int)/\(n.L.length:Int)<=(60:Int))) (T.ite (!xa0 l.I (-1:Int) (IntKind.i64.wrap ((a.L.length:Int) - (1:Int)))) (T.leaf [D.i 2]) (T.ite (decide (l.I>=(0:Int))) (T.need (decide ((0:Int)<=l.I/\l.I<(a.L.length:Int))) (T.ite (D.I (List.getD (List.getD a.L l.I.toNat []) 0 default) != (2:Int)) (T.leaf [D.i 2]) (T.leaf [D.i 0]))) (T.leaf [D.i 0])))))))))))))))):=by
 intros
 kernel_rfl
theorem ygh (a b c d e f g h i j k l m n o p q:D) :
 let X1:=T.ite (decide (D.I (List.getD (List.getD a.L c.I.toNat []) (0+1) default)>=(6:Int))) (T.leaf (Rd.out Ex.ret [D.i 2])) (T.ite (D.I (List.getD (List.getD a.L c.I.toNat []) 0 default) == (1:Int)) (T.ite (!xa0 (D.I (List.getD (List.getD a.L c.I.toNat []) (0+1+1) default)) (0:Int) (1440:Int)) (T.leaf (Rd.out Ex.ret [D.i 2])) (T.leaf (Rd.again [D.l a.L,D.i b.I,D.i (IntKind.i64.wrap (c.I+(1:Int))),D.l d.L,D.i e.I,D.i f.I,D.i g.I,D.i h.I,D.i i.I,D.l j.L,D.b k.B,D.i l.I,D.i m.I,D.i n.I,D.i o.I,D.l p.L,D.l q.L]))) (T.ite (D.I (List.getD (List.getD a.L c.I.toNat []) 0 default) == (2:Int)) (T.ite (D.I (List.getD (List.getD a.L c.I.toNat []) (0+1+1) default) != (0:Int)) (T.leaf (Rd.out Ex.ret [D.i 2])) (T.ite (D.B (List.getD (List.getD a.L c.I.toNat []) (0+1+1+1) default)) (T.leaf (Rd.out Ex.ret [D.i 2])) (T.leaf (Rd.again [D.l a.L,D.i b.I,D.i (IntKind.i64.wrap (c.I+(1:Int))),D.l d.L,D.i e.I,D.i f.I,D.i g.I,D.i h.I,D.i i.I,D.l j.L,D.b k.B,D.i l.I,D.i m.I,D.i n.I,D.i o.I,D.l p.L,D.l q.L])))) (T.leaf (Rd.out Ex.ret [D.i 2]))));(xb4 C xZf 9 (xaa C.P 9 4) xOo [a,b,c,d,e,f,g,h,i,j,k,l,m,n,o,p,q]).run =
 T.run (T.ite (decide (c.I<b.I)) (T.need (decide ((0:Int)<=c.I/\c.I<(a.L.length:Int))) (T.ite (decide (c.I > (0:Int))) (T.need (decide ((0:Int)<=IntKind.i64.wrap (c.I - (1:Int))/\IntKind.i64.wrap (c.I - (1:Int))<(d.L.length:Int))) (T.ite (!xa0 (IntKind.i64.wrap (D.I (List.getD (List.getD a.L c.I.toNat []) (0+1) default) - D.I (List.getD (List.getD d.L (Int.toNat (IntKind.i64.wrap (c.I - (1:Int)))) []) (0+1) default))) (0:Int) (1:Int)) (T.leaf (Rd.out Ex.ret [D.i 2])) X1)) X1)) (T.leaf (Rd.out (Ex.exit 0) [D.l d.L,D.i e.I,D.i f.I,D.i g.I,D.i h.I,D.i i.I,D.l j.L,D.b k.B,D.i l.I,D.i m.I,D.i n.I,D.i o.I,D.l p.L,D.l q.L]))):=by
 intros
 kernel_rfl
theorem t27 (a b c d e f g h i j k l m n o p q:D) :
 let X1:=((a.L.length:Int) - (1:Int));(fnT C xWa 27 s27 [a,b,c,d,e,f,g,h,i,j,k,l,m,n,o,p,q]).run =
 T.run (T.need (yes (xan a.L b.I c.I d.I e.I f.I g.L h.B i.I j.I k.I l.I m.L n.L)) (T.ite (!xa0 o.I (0:Int) (IntKind.i64.wrap (b.I - (1:Int)))) (T.leaf [D.i 2]) (T.ite ((q.L.length:Int) != (a.L.length:Int)) (T.leaf [D.i 2]) (T.need (decide ((0:Int)<=IntKind.i64.wrap X1/\IntKind.i64.wrap X1<(a.L.length:Int))) (T.ite ((p.L.length:Int) != IntKind.i64.wrap (D.I (List.getD (List.getD a.L (Int.toNat (IntKind.i64.wrap X1)) []) (0+1) default)+(1:Int))) (T.leaf [D.i 2]) (T.need (yes (inB p.L (100000:Int)/\(1:Int)<=(p.L.length:Int)/\(p.L.length:Int)<=(6:Int))) (T.need (yes (xan a.L b.I c.I d.I e.I f.I g.L h.B i.I j.I k.I l.I m.L n.L/\xdl a.L o.I p.L q.L/\q.L=q.L/\(q.L.length:Int)=(q.L.length:Int)/\(0:Int)<=(0:Int)/\(0:Int)<=(q.L.length:Int))) (T.leaf [D.i 0])))))))):=by
 intros
 kernel_rfl
theorem yfl (a b c d e f g h i j k l m n o p q r s t:D) :
 let X1:=(yes (D.I (List.getD (List.getD d.L c.I.toNat []) 0 default)=(1:Int)/\(0:Int)<=D.I (List.getD (List.getD a.L c.I.toNat []) 0 default)/\D.I (List.getD (List.getD a.L c.I.toNat []) 0 default)<=(100000:Int)/\D.I (List.getD (List.getD a.L c.I.toNat []) (0+1) default)=(0:Int)/\D.B (List.getD (List.getD a.L c.I.toNat []) (0+1+1) default)=false/\D.I (List.getD (List.getD a.L c.I.toNat []) (0+1+1+1) default)=(0:Int)));let X2:=T.leaf (Rd.again [D.l a.L,D.i b.I,D.i (IntKind.i64.wrap (c.I+(1:Int))),D.l d.L,D.i e.I,D.i f.I,D.i g.I,D.i h.I,D.i i.I,D.l j.L,D.b k.B,D.i l.I,D.i m.I,D.i n.I,D.i o.I,D.l p.L,D.l q.L,D.i r.I,D.l s.L,D.l t.L]);let X3:=(decide ((0:Int)<=c.I/\c.I<(d.L.length:Int)));let X4:=(Int.toNat (IntKind.i64.wrap (c.I - (1:Int))));(xb4 C xWa 27 (xaa C.P 27 4) xF0 [a,b,c,d,e,f,g,h,i,j,k,l,m,n,o,p,q,r,s,t]).run =
 T.run (T.ite (decide (c.I<b.I)) (T.need (decide ((0:Int)<=c.I/\c.I<(a.L.length:Int))) (T.ite (decide (c.I > (0:Int))) (T.need (decide ((0:Int)<=IntKind.i64.wrap (c.I - (1:Int))/\IntKind.i64.wrap (c.I - (1:Int))<(t.L.length:Int))) (T.ite (D.I (List.getD (List.getD t.L X4 []) (0+1+1+1) default) == (2:Int)) (T.need (decide ((0:Int)<=IntKind.i64.wrap (c.I - (1:Int))/\IntKind.i64.wrap (c.I - (1:Int))<(d.L.length:Int))) (T.need X3 (T.need X3 (T.need X1 (T.ite (D.I (List.getD (List.getD d.L X4 []) (0+1) default) == D.I (List.getD (List.getD d.L c.I.toNat []) (0+1) default)) (T.ite (D.I (List.getD (List.getD a.L c.I.toNat []) (0+1+1+1) default) != (2:Int)) (T.leaf (Rd.out Ex.ret [D.i 2])) X2) X2))))) (T.need X3 (T.need X1 X2)))) (T.need X3 (T.need X1 X2)))) (T.leaf (Rd.out (Ex.exit 0) []))):=by
 intros
 kernel_rfl
theorem t54 (a b c d e f g h i j k l m n o p q:D):(fnT C yen 54 s54 [a,b,c,d,e,f,g,h,i,j,k,l,m,n,o,p,q]).run =
 T.run (T.need (yes (xan d.L e.I f.I g.I h.I i.I j.L k.B l.I m.I n.I o.I p.L q.L/\xdl d.L a.I b.L c.L)) (T.leaf [D.b false])):=by kernel_rfl
theorem t77 (a b c d e f g h i j k l m n o:D):(fnT C xV7 77 s77 [a,b,c,d,e,f,g,h,i,j,k,l,m,n,o]).run =
 T.run (T.need (yes (xan b.L c.I d.I e.I f.I g.I h.L i.B j.I k.I l.I m.I n.L o.L/\(a.L.length<=12/\∀ (k:Nat),k<a.L.length->xh4 b.L a.L k)/\(a.L.length:Int)=(a.L.length:Int)/\(0:Int)<=(0:Int)/\(0:Int)<=(a.L.length:Int))) (T.leaf [D.i (-1:Int)])):=by kernel_rfl
theorem ye8 (a b c d e f g h i j k l m n o p q:D) :
 let X1:=List.getD a.L q.I.toNat [];(xb4 C xV7 77 (xaa C.P 77 2) xFp [a,b,c,d,e,f,g,h,i,j,k,l,m,n,o,p,q]).run =
 T.run (T.ite (decide (q.I<p.I)) (T.need (decide ((0:Int)<=q.I/\q.I<(a.L.length:Int))) (T.need (yes (xan b.L c.I d.I e.I f.I g.I h.L i.B j.I k.I l.I m.I n.L o.L/\xdl b.L (D.I (List.getD X1 0 default)) (D.L (List.getD X1 (0+1) default)) (D.L (List.getD X1 (0+1+1) default)))) (T.leaf (Rd.again [D.l a.L,D.l b.L,D.i c.I,D.i d.I,D.i e.I,D.i f.I,D.i g.I,D.l h.L,D.b i.B,D.i j.I,D.i k.I,D.i l.I,D.i m.I,D.l n.L,D.l o.L,D.i p.I,D.i (IntKind.i64.wrap (q.I+(1:Int)))])))) (T.leaf (Rd.out (Ex.exit 0) []))):=by
 intros
 kernel_rfl
theorem t53 (a b c d e f g h i j k l m n o:D):(fnT C yeo 53 s53 [a,b,c,d,e,f,g,h,i,j,k,l,m,n,o]).run =
 T.run (T.need (yes (xan b.L c.I d.I e.I f.I g.I h.L i.B j.I k.I l.I m.I n.L o.L/\a.L.length<=12/\∀ (k:Nat),k<a.L.length->xh4 b.L a.L k)) (T.leaf [D.b false])):=by kernel_rfl
set_option maxRecDepth 100000
theorem xoz (n:Nat):xbo C (n+1) 23 (mkF s23 G23):=by
 refine xbk hC (sp:=ybc) (lp:=ydm) (sw:=yah) trivial trivial (by kernel_rfl) [] (by kernel_rfl) rfl (fun k hk=>by cases hk) fun ds rr h=>?_
 unfold G23 at h;split at h
 ·rename_i a b c;refine (t23 a b c).trans ?_;rw [<- h];simp only [xa5,xd7,Lite.xa0];split <;> rename_i hc
  ·have:b.I<=a.I:=of_decide_eq_true hc;simp [this]
  ·have:¬ b.I<=a.I:=fun h=>hc (decide_eq_true h)
   simp [this]
 ·cases h
theorem xNy (n:Nat):xbo C (n+2) 52 (mkF s52 G52):=by
 refine xbk hC (sp:=ya2) (lp:=ydc) (sw:=xZ7) ⟨xoz n,trivial⟩ trivial (by kernel_rfl) [] (by kernel_rfl) rfl (fun k hk=>by cases hk) fun ds rr h=>?_
 unfold G52 at h;split at h
 ·rename_i a m;exact (t52 a m).trans h
 ·cases h
theorem xUg (n:Nat):xct C (n+2) 76 (xaa C.P 76 2) (mkL xvw xC1):=by
 refine xbb hC (sp:=xzf) (lp:=xz5) (sw:=xy4) ⟨xNy n,trivial⟩ trivial 0 [] (by kernel_rfl) rfl (fun k hk=>by cases hk) (by kernel_rfl) (fun ds=>((ds.getD 2 default).I - (ds.getD 3 default).I).toNat) fun ds rr h=>?_
 unfold xC1 at h;split at h
 ·rename_i l m n i;obtain ⟨hp,h⟩:=xab h;rw [xad] at hp;obtain ⟨⟨hl,hb⟩,hn,hi0,hi1⟩:=hp;refine ⟨by rw [xa9];simp;omega,?_⟩;rw [show (xal C (xah xzf xz5 xy4) 76 (xaa C.P 76 2) 0 xvw [l,m,n,i]).run=_ from xXk l m n i];obtain ⟨k,hk⟩:∃ k:Nat,i.I=k:=⟨i.I.toNat,by omega⟩;simp only [hk,hn,Int.toNat_natCast] at hi0 hi1 ⊢;refine xa2 (fun hlt=>?_) fun hge=>xao h
  refine xac (by omega) (xbr (by rw [Bool.not_eq_false',xd0];exact decide_eq_true (hb k (by omega))) ?_);rw [xbd (by omega)];exact xaj ((xam ⟨⟨hl,hb⟩,rfl,by simp only [I_i];omega,by simp only [I_i,L_l];omega⟩).trans h) (show ((l.L.length:Int) - ((k+1:Nat):Int)).toNat<(n.I - i.I).toNat by omega)
 ·cases h
theorem yb9 (n:Nat):xbo C (n+3) 76 (mkF xM8 xPw):=by
 refine xbk hC (sp:=xzf) (lp:=xz5) (sw:=xy4) ⟨xNy n,trivial⟩ trivial (by kernel_rfl) [2] (by kernel_rfl) (by kernel_rfl) (fun k hk L hL=>by simp at hk;subst hk;cases hL;exact xUg n) fun ds rr h=>?_
 unfold xPw at h;split at h
 ·rename_i l m;obtain ⟨hp,h⟩:=xab h;rw [xad] at hp;refine (yfi l m).trans ?_;rw [<- h];exact xai ⟨hp,rfl,by omega,by omega⟩ rfl
 ·cases h
theorem yca (n:Nat):xbo C (n+4) 51 (mkF xM9 xPx):=by
 refine xbk hC (sp:=xQu) (lp:=xRr) (sw:=xQo) ⟨yb9 n,xNy (n+1),trivial⟩ trivial (by kernel_rfl) [] (by kernel_rfl) rfl (fun k hk=>by cases hk) fun ds rr h=>?_
 unfold xPx at h;split at h
 ·rename_i l m;exact (yfj l m).trans h
 ·cases h
theorem xN0 (n:Nat):xbo C (n+5) 24 (mkF s24 G24):=by
 refine xbk hC (sp:=ybb) (lp:=ydl) (sw:=yag) ⟨xoz (n+3),yca n,xNy (n+2),trivial⟩ trivial (by kernel_rfl) [] (by kernel_rfl) rfl (fun k hk=>by cases hk) fun ds rr h=>?_
 unfold G24 at h;split at h
 ·rename_i l a b m;obtain ⟨hp,h⟩:=xab h;rw [xad] at hp;refine (t24 l a b m).trans ?_;rw [<- h];exact xcx (by rw [xd0];exact decide_eq_true hp.2) (xai hp.1 rfl)
 ·cases h
theorem ybv (n:Nat):xbo C (n+2) 60 (mkF s60 G60):=by
 refine xbk hC (sp:=yaw) (lp:=yc6) (sw:=xZ1) ⟨xoz n,trivial⟩ trivial (by kernel_rfl) [] (by kernel_rfl) rfl (fun k hk=>by cases hk) fun ds rr h=>?_
 unfold G60 at h;split at h
 ·rename_i k e t f m z q r;obtain ⟨hp,h⟩:=xab h;rw [xad] at hp;obtain ⟨h1,h2,h3,h4,h5,h6⟩:=hp;refine (t60 k e t f m z q r).trans ?_;rw [<- h];simp only [xd0,h1,h4,h5,h6];exact xv8 (decide_eq_true ⟨h2,h3⟩) rfl
 ·cases h
theorem xSg {l s m:List (List D)} {cl:Int} (hc:xdl l cl s m) {j:Nat} (hj:j<l.length) (hl:∀ j,j<l.length->xAq l j) (hs:(xd8 l j).toNat<s.length):0<=xkd l s m j/\xkd l s m j<=101440:=by
 obtain ⟨-,h2,h3,h4,-,-⟩:=hc;obtain ⟨-,i1,i2,-⟩:=hl j hj;unfold xkd;split
 ·obtain ⟨k1,k2,-⟩:=h4 (j - 1) (by omega);omega
 ·obtain ⟨k1,k2⟩:=h2 _ hs;omega
theorem xIb {l:List (List D)} (hl:∀ j,j<l.length->xAq l j):∀ {j k:Nat},j+k<l.length->xd8 l j<=xd8 l (j+k)
 | _,0,_=>Int.le_refl _
 | j, k+1,h=>by
   have h1:=xIb hl (j:=j) (k:=k) (by omega);obtain ⟨-,-,-,-,-,-,-,h2⟩:=hl (j+(k+1)) h;have h3:=h2 (by omega);rw [show j+(k+1) - 1=j+k by omega] at h3;omega
theorem xRy {l s m:List (List D)} {cl:Int} (hc:xdl l cl s m) {j:Nat} (hj:j<l.length) (hl:∀ j,j<l.length->xAq l j):0<=xd8 l j/\(xd8 l j).toNat<s.length:=by
 obtain ⟨⟨-,h1⟩,-⟩:=hc;obtain ⟨-,-,-,-,h2,-⟩:=hl j hj;have h3:=xIb hl (j:=j) (k:=l.length - 1 - j) (by omega);rw [show j+(l.length - 1 - j)=l.length - 1 by omega] at h3;omega
theorem ygs (n:Nat):xbo C (n+1) 83 (mkF s83 G83):=by
 refine xbk hC (sp:=yao) (lp:=ycy) (sw:=xZt) trivial trivial (by kernel_rfl) [] (by kernel_rfl) rfl (fun k hk=>by cases hk) fun ds rr h=>?_
 unfold G83 at h;split at h
 ·rename_i l c la ea ml ll ju re mi no pe po pt ex cl s m j;obtain ⟨hp,h⟩:=xab h;rw [xad] at hp;obtain ⟨⟨⟨⟨l1,l2⟩,hl⟩,-⟩,hc,j0,j1⟩:=hp;refine (t83 l c la ea ml ll ju re mi no pe po pt ex cl s m j).trans ?_;rw [<- h];obtain ⟨k,hk⟩:∃ k:Nat,j.I=k:=⟨j.I.toNat,by omega⟩;simp only [hk,Int.toNat_natCast,Nat.reduceAdd] at j0 j1 ⊢;have hk1:k<l.L.length:=by omega
  obtain ⟨s0,s1⟩:=xRy hc hk1 hl;obtain ⟨d0,d1⟩:=xSg hc hk1 hl s1;have hm:=hc.2.2.1;have s0':0<=(((l.L.getD k []).getD 1 default).I):=s0;have s1':(((l.L.getD k []).getD 1 default).I).toNat<s.L.length:=s1;have hlast:∀ {x:Int},x=xkd l.L s.L m.L k->(T.leaf [D.i (IntKind.wrap .i64 x)]).run=(T.leaf [D.i (xkd l.L s.L m.L k)]).run:=fun e=>by rw [e,xas (by omega) (by omega)]
  have hst:¬ (0<k/\xd8 l.L (k - 1)=xd8 l.L k)->((s.L.getD (((l.L.getD k []).getD 1 default).I).toNat []).getD 0 default).I+((l.L.getD k []).getD 2 default).I=xkd l.L s.L m.L k:=fun hn=>by
   unfold xkd;rw [if_neg hn];rfl
  refine xau (by omega) (xdk (fun c1=>?_) fun c1=>?_)
  ·have w1:IntKind.wrap .i64 ((k:Int) - 1)=((k - 1:Nat):Int):=by rw [xas (by omega) (by omega)];omega
   simp only [w1,Int.toNat_natCast];refine xau (by omega) (xhc (fun c2=>xau (by omega) (xau (by omega) (hlast ?_))) fun c2=>xau (by omega) (xau (by omega) (hlast (hst fun hn=>?_))))
   ·have c2:((l.L.getD (k - 1) []).getD 1 default).I=((l.L.getD k []).getD 1 default).I:=by simpa using c2
    unfold xkd;rw [if_pos ⟨by omega,c2⟩];rfl
   ·have c2:¬ ((l.L.getD (k - 1) []).getD 1 default).I=((l.L.getD k []).getD 1 default).I:=by simpa using c2
    exact c2 hn.2
  ·exact xau (by omega) (xau (by omega) (hlast (hst fun hn=>by omega)))
 ·cases h
theorem xJb {l s m:List (List D)} {cl:Int} (hc:xdl l cl s m) {j:Nat} (hj:j<l.length):ix (m.getD j []) 0 - xkd l s m j=byI l s m j/\0<=byI l s m j/\byI l s m j<=1000:=by
 obtain ⟨-,-,-,-,h5,h6,h7⟩:=hc;unfold byI;split
 ·rename_i e;have:j=l.length - 1:=by omega
  subst this;exact ⟨rfl,h6,h7⟩
 ·rw [h5 j (by omega)];omega
theorem xNw (n:Nat):xbo C (n+2) 62 (mkF s62 G62):=by
 refine xbk hC (sp:=yau) (lp:=yc4) (sw:=xZz) ⟨ygs n,trivial⟩ trivial (by kernel_rfl) [] (by kernel_rfl) rfl (fun k hk=>by cases hk) fun ds rr h=>?_
 unfold G62 at h;split at h
 ·rename_i l c la ea ml ll ju re mi no pe po pt ex cl s m j;obtain ⟨hp,h⟩:=xab h;rw [xad] at hp;have hp0:=hp;obtain ⟨⟨⟨⟨l1,l2⟩,hl⟩,-⟩,hc,j0,j1⟩:=hp;refine (t62 l c la ea ml ll ju re mi no pe po pt ex cl s m j).trans ?_;rw [<- h];obtain ⟨k,hk⟩:∃ k:Nat,j.I=k:=⟨j.I.toNat,by omega⟩;rw [hk] at hp0;simp only [hk,Int.toNat_natCast,Nat.reduceAdd] at j0 j1 ⊢;have hk1:k<l.L.length:=by omega
  have hm:=hc.2.2.1;obtain ⟨b1,b2,b3⟩:=xJb hc hk1;have b1:((m.L.getD k []).getD 0 default).I - xkd l.L s.L m.L k=byI l.L s.L m.L k:=b1;obtain ⟨-,-,-,-,hmk⟩:=hc.2.2.2.1 k (by omega);have hkind:=(hl k hk1).1;have hkind:((l.L.getD k []).getD 0 default).I=1:=hkind;have hmk:((m.L.getD k []).getD 3 default).I=0:=hmk;have hw:IntKind.wrap .i64 (byI l.L s.L m.L k)=byI l.L s.L m.L k:=xas (by omega) (by omega);simp only [b1,hw,hkind,hmk];refine xau (by omega) (xaq rfl (xau (by omega) (xaq rfl (xau (by omega) (xai hp0 (xdk (fun c1=>?_) fun c1=>xkj (by omega) ?_))))))
  ·rw [if_pos (by omega)]
  ·rw [if_neg (by omega),show byI l.L s.L m.L k=0 by omega]
 ·cases h
set_option maxRecDepth 100000
theorem yg9 {x y z m:Int} (hx:0<=x/\x<=m) (hy:0<=y/\y<=m) (hz:0<=z/\z<=m):inB [[.i x],[.i y],[.i z]] m:=⟨by simp,fun j hj=>by
 match j,hj with
 | 0,_=>exact hx
 | 1,_=>exact hy
 | 2,_=>exact hz⟩
theorem yha {x y m:Int} (hx:0<=x/\x<=m) (hy:0<=y/\y<=m):inB [[.i x],[.i y]] m:=⟨by simp,fun j hj=>by
 match j,hj with
 | 0,_=>exact hx
 | 1,_=>exact hy⟩
theorem yhb {x m:Int} (hx:0<=x/\x<=m):inB [[.i x]] m:=⟨by simp,fun j hj=>by
 match j,hj with
 | 0,_=>exact hx⟩
theorem ydv {m:Int}:inB [] m:=⟨by simp,fun j hj=>by simp at hj⟩
theorem xkm {x a b:Int} (h:a<=x/\x<=b):(!xa0 x a b)=false:=by rw [Bool.not_eq_false',xd0];exact decide_eq_true h
theorem yfz (n:Nat):xct C (n+5) 9 (xaa C.P 9 4) (mkL xOo xPn):=by
 refine xbb hC (sp:=sp9) (lp:=lp9) (sw:=sw9) ⟨xoz (n+4),xN0 n,trivial⟩ trivial 0 [] (by kernel_rfl) rfl (fun k hk=>by cases hk) (by kernel_rfl) (fun ds=>((ds.getD 1 default).I - (ds.getD 2 default).I).toNat) fun ds rr h=>?_
 unfold xPn at h;split at h
 ·rename_i l' nn i l c la ea ml ll ju re mi no pe po pt ex;obtain ⟨hp,h⟩:=xab h;rw [xad] at hp;obtain ⟨hp,hl',hn,hi0,hi1⟩:=hp;obtain ⟨⟨l1,l2⟩,hl⟩:=hp.1;refine ⟨by rw [xa9];simp;omega,?_⟩;rw [show (xal C (xah sp9 lp9 sw9) 9 (xaa C.P 9 4) 0 xOo [l',nn,i,l,c,la,ea,ml,ll,ju,re,mi,no,pe,po,pt,ex]).run=_ from ygh l' nn i l c la ea ml ll ju re mi no pe po pt ex];obtain ⟨k,hk⟩:∃ k:Nat,i.I=k:=⟨i.I.toNat,by omega⟩;simp only [hk,hn,hl',Int.toNat_natCast,Nat.reduceAdd] at hi0 hi1 ⊢;refine xa2 (fun hlt=>?_) fun hge=>xao h
  have hk1:k<l.L.length:=by omega
  obtain ⟨g0,g1,g2,g3,g4,g5,g6,g7⟩:=hl k hk1;have g0:((l.L.getD k []).getD 0 default).I=1:=g0;have g1:0<=((l.L.getD k []).getD 2 default).I:=g1;have g2:((l.L.getD k []).getD 2 default).I<=1440:=g2;have g4:0<=((l.L.getD k []).getD 1 default).I:=g4;have g5:((l.L.getD k []).getD 1 default).I<6:=g5;have again:xez xPn (fun ds=>((ds.getD 1 default).I - (ds.getD 2 default).I).toNat) [l',nn,i,l,c,la,ea,ml,ll,ju,re,mi,no,pe,po,pt,ex] rr (T.leaf (Rd.again [.l l.L,.i (l.L.length:Int),.i (IntKind.wrap .i64 ((k:Int)+1)),.l l.L,.i c.I,.i la.I,.i ea.I,.i ml.I,.i ll.I,.l ju.L,.b re.B,.i mi.I,.i no.I,.i pe.I,.i po.I,.l pt.L,.l ex.L])).run:=by
   rw [xbd (by omega)];exact xaj ((xam ⟨hp,rfl,rfl,by simp only [I_i];omega,by simp only [I_i,L_l];omega⟩).trans h) (show ((l.L.length:Int) - ((k+1:Nat):Int)).toNat<(nn.I - i.I).toNat by omega)
  refine xac (by omega) (xa2 (fun c1=>?_) fun c1=>?_)
  ·have w1:IntKind.wrap .i64 ((k:Int) - 1)=((k - 1:Nat):Int):=by rw [xas (by omega) (by omega)];omega
   obtain ⟨-,-,-,-,p4,p5,-,-⟩:=hl (k - 1) (by omega);have p4:0<=((l.L.getD (k - 1) []).getD 1 default).I:=p4;have p5:((l.L.getD (k - 1) []).getD 1 default).I<6:=p5;have g7:((l.L.getD k []).getD 1 default).I=((l.L.getD (k - 1) []).getD 1 default).I\/((l.L.getD k []).getD 1 default).I=((l.L.getD (k - 1) []).getD 1 default).I+1:=g7 (by omega);have w2:IntKind.wrap .i64 (((l.L.getD k []).getD 1 default).I - ((l.L.getD (k - 1) []).getD 1 default).I)=((l.L.getD k []).getD 1 default).I - ((l.L.getD (k - 1) []).getD 1 default).I:=xas (by omega) (by omega);simp only [w1,Int.toNat_natCast,w2];exact xac (by omega) (xbr (xkm (by omega)) (xem (by omega) (xiy (by rw [g0];rfl) (xbr (xkm ⟨g1,g2⟩) again))))
  ·exact xem (by omega) (xiy (by rw [g0];rfl) (xbr (xkm ⟨g1,g2⟩) again))
 ·cases h
theorem ok9 (n:Nat):xbo C (n+6) 9 (mkF s9 G9):=by
 refine xbk hC (sp:=sp9) (lp:=lp9) (sw:=sw9) ⟨xoz (n+4),xN0 n,trivial⟩ trivial (by kernel_rfl) [4] (by kernel_rfl) (by kernel_rfl) (fun k hk L hL=>by simp at hk;subst hk;cases hL;exact yfz n) fun ds rr h=>?_
 unfold G9 at h;split at h
 ·rename_i l c la ea ml ll ju re mi no pe po pt ex;obtain ⟨hp,h⟩:=xab h;rw [xad] at hp;refine (t9 l c la ea ml ll ju re mi no pe po pt ex).trans ?_;rw [<- h];have hp0:=hp;obtain ⟨⟨⟨l1,l2⟩,hl⟩,⟨h1,h2,h3,h4,h5⟩,⟨h6,h7⟩,h8,h9,⟨h10,h11,h12,h13⟩,h14,h15⟩:=hp;have g6:((l.L.getD 0 []).getD 1 default).I=0:=(hl 0 (by omega)).2.2.2.2.2.2.1 rfl;have w:IntKind.wrap .i64 ((l.L.length:Int) - 1)=(l.L.length:Int) - 1:=xas (by omega) (by omega);simp only [Int.toNat_zero,w];refine xaq (xkm (by omega)) (xaq (xkm (by omega)) (xau (by omega) (xaq (by rw [g6];rfl) (xai ⟨hp0,by trivial,by first | trivial | omega,by omega,by omega⟩ ?_))));refine xai (show inB [[.i la.I],[.i ea.I],[.i mi.I]] 36000000/\_ from ⟨yg9 (by omega) (by omega) (by omega),by simp,by simp⟩) ?_;refine xai (show inB [[.i ml.I],[.i ll.I]] 1440/\_ from ⟨yha (by omega) (by omega),by simp,by simp⟩) ?_;simp only [h8,h14,h15];refine xai ⟨yhb (by omega),by simp,by simp⟩ (xkj (by omega) (xkj (by omega) (xaq (xkm (by omega)) (xai ⟨ydv,by simp,by simp⟩ (xai ⟨ydv,by simp,by simp⟩ (xaq (xkm (by omega)) (xkj (by omega) rfl)))))))
 ·cases h
theorem yce (n:Nat):xct C (n+6) 27 (xaa C.P 27 4) (mkL xF0 xGf):=by
 refine xbb hC (sp:=xM2) (lp:=xOh) (sw:=xMs) ⟨ok9 n,xoz (n+5),xN0 (n+1),ybv (n+4),trivial⟩ trivial 0 [] (by kernel_rfl) rfl (fun k hk=>by cases hk) (by kernel_rfl) (fun ds=>((ds.getD 1 default).I - (ds.getD 2 default).I).toNat) fun ds rr h=>?_
 unfold xGf at h;split at h
 ·rename_i m' nn i l c la ea ml ll ju re mi no pe po pt ex cl s m;obtain ⟨hp,h⟩:=xab h;rw [xad] at hp;obtain ⟨hp,hc,hm',hn,hi0,hi1⟩:=hp;obtain ⟨⟨l1,l2⟩,hl⟩:=hp.1;have hml:=hc.2.2.1;refine ⟨by rw [xa9];simp;omega,?_⟩;rw [show (xal C (xah xM2 xOh xMs) 27 (xaa C.P 27 4) 0 xF0 [m',nn,i,l,c,la,ea,ml,ll,ju,re,mi,no,pe,po,pt,ex,cl,s,m]).run=_ from yfl m' nn i l c la ea ml ll ju re mi no pe po pt ex cl s m];obtain ⟨k,hk⟩:∃ k:Nat,i.I=k:=⟨i.I.toNat,by omega⟩;simp only [hk,hn,hm',Int.toNat_natCast,Nat.reduceAdd] at hi0 hi1 ⊢;refine xa2 (fun hlt=>?_) fun hge=>xao h
  have hk1:k<m.L.length:=by omega
  obtain ⟨g0,-⟩:=hl k (by omega);obtain ⟨m1,m2,m3,m4,m5⟩:=hc.2.2.2.1 k hk1;have hy:((l.L.getD k []).getD 0 default).I=1/\0<=((m.L.getD k []).getD 0 default).I/\((m.L.getD k []).getD 0 default).I<=100000/\((m.L.getD k []).getD 1 default).I=0/\((m.L.getD k []).getD 2 default).B=false/\((m.L.getD k []).getD 3 default).I=0:=⟨g0,m1,m2,m3,m4,m5⟩;have again:xez xGf (fun ds=>((ds.getD 1 default).I - (ds.getD 2 default).I).toNat) [m',nn,i,l,c,la,ea,ml,ll,ju,re,mi,no,pe,po,pt,ex,cl,s,m] rr (T.leaf (Rd.again [.l m.L,.i (m.L.length:Int),.i (IntKind.wrap .i64 ((k:Int)+1)),.l l.L,.i c.I,.i la.I,.i ea.I,.i ml.I,.i ll.I,.l ju.L,.b re.B,.i mi.I,.i no.I,.i pe.I,.i po.I,.l pt.L,.l ex.L,.i cl.I,.l s.L,.l m.L])).run:=by
   rw [xbd (by omega)];exact xaj ((xam ⟨hp,hc,rfl,rfl,by simp only [I_i];omega,by simp only [I_i,L_l];omega⟩).trans h) (show ((m.L.length:Int) - ((k+1:Nat):Int)).toNat<(nn.I - i.I).toNat by omega)
  refine xac (by omega) (xa2 (fun c1=>?_) fun c1=>xac (by omega) (xbe hy again));have w1:IntKind.wrap .i64 ((k:Int) - 1)=((k - 1:Nat):Int):=by rw [xas (by omega) (by omega)];omega
  obtain ⟨-,-,-,-,p5⟩:=hc.2.2.2.1 (k - 1) (by omega);have p5:((m.L.getD (k - 1) []).getD 3 default).I=0:=p5;simp only [w1,Int.toNat_natCast,p5];exact xac (by omega) (xbr rfl (xac (by omega) (xbe hy again)))
 ·cases h
theorem ycf (n:Nat):xbo C (n+7) 27 (mkF s27 G27):=by
 refine xbk hC (sp:=xM2) (lp:=xOh) (sw:=xMs) ⟨ok9 n,xoz (n+5),xN0 (n+1),ybv (n+4),trivial⟩ trivial (by kernel_rfl) [4] (by kernel_rfl) (by kernel_rfl) (fun k hk L hL=>by simp at hk;subst hk;cases hL;exact yce n) fun ds rr h=>?_
 unfold G27 at h;split at h
 ·rename_i l c la ea ml ll ju re mi no pe po pt ex cl s m;obtain ⟨hp,h⟩:=xab h;rw [xad] at hp;obtain ⟨hp,hc⟩:=hp;refine (t27 l c la ea ml ll ju re mi no pe po pt ex cl s m).trans ?_;rw [<- h];have hp0:=hp;obtain ⟨⟨⟨l1,l2⟩,hl⟩,⟨h1,-⟩,-⟩:=hp;have hc0:=hc;obtain ⟨⟨k1,k2⟩,k3,k4,-⟩:=hc;have w:IntKind.wrap .i64 ((l.L.length:Int) - 1)=((l.L.length - 1:Nat):Int):=by rw [xas (by omega) (by omega)];omega
  obtain ⟨-,-,-,-,g4,g5,-⟩:=hl (l.L.length - 1) (by omega);have k2:(s.L.length:Int)=((l.L.getD (l.L.length - 1) []).getD 1 default).I+1:=k2;have g4:0<=((l.L.getD (l.L.length - 1) []).getD 1 default).I:=g4;have g5:((l.L.getD (l.L.length - 1) []).getD 1 default).I<6:=g5;have w2:IntKind.wrap .i64 (((l.L.getD (l.L.length - 1) []).getD 1 default).I+1)=(s.L.length:Int):=by rw [xas (by omega) (by omega),k2]
  have w3:IntKind.wrap .i64 (c.I - 1)=0:=by rw [h1];rfl
  simp only [w,w3,Int.toNat_natCast,w2,k4];exact xai hp0 (xaq (xkm (by omega)) (xaq (by simp) (xau (by omega) (xaq (by simp) (xai ⟨⟨by omega,k3⟩,by omega,by omega⟩ (xai ⟨hp0,hc0,by trivial,by first | trivial | omega,by omega,by omega⟩ rfl))))))
 ·cases h
theorem xx1 (n:Nat):xbo C (n+8) 54 (mkF s54 G54):=by
 refine xbk hC (sp:=ya0) (lp:=yda) (sw:=xZ5) ⟨ycf n,trivial⟩ trivial (by kernel_rfl) [] (by kernel_rfl) rfl (fun k hk=>by cases hk) fun ds rr h=>?_
 unfold G54 at h;split at h
 ·rename_i cl s m l c la ea ml ll ju re mi no pe po pt ex;exact (t54 cl s m l c la ea ml ll ju re mi no pe po pt ex).trans h
 ·cases h
theorem ybr (n:Nat):xct C (n+8) 77 (xaa C.P 77 2) (mkL xFp xPp):=by
 refine xbb hC (sp:=xMz) (lp:=xOe) (sw:=xMp) ⟨xx1 n,trivial⟩ trivial 0 [] (by kernel_rfl) rfl (fun k hk=>by cases hk) (by kernel_rfl) (fun ds=>((ds.getD 15 default).I - (ds.getD 16 default).I).toNat) fun ds rr h=>?_
 unfold xPp at h;split at h
 ·rename_i cs l c la ea ml ll ju re mi no pe po pt ex nn i;obtain ⟨hp,h⟩:=xab h;rw [xad] at hp;obtain ⟨hp,⟨hl,hc⟩,hn,hi0,hi1⟩:=hp;refine ⟨by rw [xa9];simp;omega,?_⟩;rw [show (xal C (xah xMz xOe xMp) 77 (xaa C.P 77 2) 0 xFp [cs,l,c,la,ea,ml,ll,ju,re,mi,no,pe,po,pt,ex,nn,i]).run=_ from ye8 cs l c la ea ml ll ju re mi no pe po pt ex nn i];obtain ⟨k,hk⟩:∃ k:Nat,i.I=k:=⟨i.I.toNat,by omega⟩;simp only [hk,hn,Int.toNat_natCast,Nat.reduceAdd] at hi0 hi1 ⊢;refine xa2 (fun hlt=>?_) fun hge=>xao h
  refine xac (by omega) (xbe ⟨hp,hc k (by omega)⟩ ?_);rw [xbd (by omega)];exact xaj ((xam ⟨hp,⟨hl,hc⟩,rfl,by simp only [I_i];omega,by simp only [I_i,L_l];omega⟩).trans h) (show ((cs.L.length:Int) - ((k+1:Nat):Int)).toNat<(nn.I - i.I).toNat by omega)
 ·cases h
theorem ygu (n:Nat):xbo C (n+9) 77 (mkF s77 G77):=by
 refine xbk hC (sp:=xMz) (lp:=xOe) (sw:=xMp) ⟨xx1 n,trivial⟩ trivial (by kernel_rfl) [2] (by kernel_rfl) (by kernel_rfl) (fun k hk L hL=>by simp at hk;subst hk;cases hL;exact ybr n) fun ds rr h=>?_
 unfold G77 at h;split at h
 ·rename_i cs l c la ea ml ll ju re mi no pe po pt ex;obtain ⟨hp,h⟩:=xab h;rw [xad] at hp;refine (t77 cs l c la ea ml ll ju re mi no pe po pt ex).trans ?_;rw [<- h];exact xai ⟨hp.1,hp.2,rfl,by omega,by omega⟩ rfl
 ·cases h
theorem xNx (n:Nat):xbo C (n+10) 53 (mkF s53 G53):=by
 refine xbk hC (sp:=ya1) (lp:=ydb) (sw:=xZ6) ⟨ygu n,xx1 (n+1),trivial⟩ trivial (by kernel_rfl) [] (by kernel_rfl) rfl (fun k hk=>by cases hk) fun ds rr h=>?_
 unfold G53 at h;split at h
 ·rename_i cs l c la ea ml ll ju re mi no pe po pt ex;exact (t53 cs l c la ea ml ll ju re mi no pe po pt ex).trans h
 ·cases h
def s55:Sig:=⟨[.eptr (pPl++[kCs,kRo]),kIn,kIn],[(kBo,[])]⟩
def s56:Sig:=⟨[.eptr (pPl++[kCs,kRo]),kIn],[(kBo,[])]⟩
def s58:Sig:=⟨[.eptr (pPl++[kCs,kRo]),kIn,kIn],[(.tup [kIn,kIn],[])]⟩
def s26:Sig:=⟨[.eptr (pPl++[kCs,kRo]),kIn],[(kIn,[])]⟩
def xF1:LSig:=xcu [0,1,5,14,15] [(62,[(0,.eptr (pPl++[kCs,kRo])),(1,kIn),(5,kIn),(14,kIn),(15,kIn)],[])] [(.exit 0,[5],[(62,[(5,kIn)],[])])]
noncomputable section
def xat (l cs:List (List D)):Prop:=(1<=cs.length/\cs.length<=12)/\∀ k,k<cs.length->xh4 l cs k
def xbi (cs ou:List (List D)):Prop:=ou.length=cs.length/\∀ k,k<ou.length->ix (ou.getD k []) 0 = -1
def xhb (l cs:List (List D)) (k:Nat):Int:=xpv l (lx (cs.getD k []) 1) (lx (cs.getD k []) 2)
def byK (l cs:List (List D)) (k j:Nat):Int:=byI l (lx (cs.getD k []) 1) (lx (cs.getD k []) 2) j
def G55 (ds:List D):T (List D):=match ds with
 | [_,_,_,_,_,_,_,_,_,_,_,_,_,_,cs,ou,k,_]=>.need (yes (xbi cs.L ou.L/\0<=k.I/\k.I<cs.L.length)) (.leaf [.b true])
 | _=>.fail
def G56 (ds:List D):T (List D):=match ds with
 | [l,c,la,ea,ml,ll,ju,re,mi,no,pe,po,pt,ex,_,_,j]=>.need (yes (xan l.L c.I la.I ea.I ml.I ll.I ju.L re.B mi.I no.I pe.I po.I pt.L ex.L/\0<=j.I/\j.I<l.L.length)) (.leaf [.b false])
 | _=>.fail
def G58 (ds:List D):T (List D):=match ds with
 | [l,c,la,ea,ml,ll,ju,re,mi,no,pe,po,pt,ex,cs,ou,k,j]=>.need (yes ((xan l.L c.I la.I ea.I ml.I ll.I ju.L re.B mi.I no.I pe.I po.I pt.L ex.L/\xat l.L cs.L/\xbi cs.L ou.L)/\0<=k.I/\k.I<cs.L.length/\0<=j.I/\j.I<l.L.length)) (.leaf [.i (if 0<byK l.L cs.L k.I.toNat j.I.toNat then 1 else 0),.i (byK l.L cs.L k.I.toNat j.I.toNat*la.I)])
 | _=>.fail
def xP1 (ds:List D):T (Ex×List D):=match ds with
 | [l,c,la,ea,ml,ll,ju,re,mi,no,pe,po,pt,ex,cs,ou,k,su,n,i]=>.need (yes ((xan l.L c.I la.I ea.I ml.I ll.I ju.L re.B mi.I no.I pe.I po.I pt.L ex.L/\xat l.L cs.L/\xbi cs.L ou.L)/\0<=k.I/\k.I<cs.L.length/\n.I=l.L.length/\(0<=i.I/\i.I<=l.L.length)/\su.I=(if i.I=l.L.length then xhb l.L cs.L k.I.toNat*la.I else 0))) (.leaf (.exit 0,[.i (xhb l.L cs.L k.I.toNat*la.I)]))
 | _=>.fail
def G26 (ds:List D):T (List D):=match ds with
 | [l,c,la,ea,ml,ll,ju,re,mi,no,pe,po,pt,ex,cs,ou,k]=>.need (yes ((xan l.L c.I la.I ea.I ml.I ll.I ju.L re.B mi.I no.I pe.I po.I pt.L ex.L/\xat l.L cs.L/\xbi cs.L ou.L)/\0<=k.I/\k.I<cs.L.length)) (.leaf [.i (xhb l.L cs.L k.I.toNat*la.I)])
 | _=>.fail
end
def yaz:SpL:=[]
def yc9:LpL:=[]
def xZ4:SwL:=[]
def yem:Tab:=xah yaz yc9 xZ4
def yay:SpL:=[]
def yc8:LpL:=[]
def xZ3:SwL:=[]
def yel:Tab:=xah yay yc8 xZ3
def yax:SpL:=[(62,mkF s62 G62)]
def yc7:LpL:=[]
def xZ2:SwL:=[]
def yek:Tab:=xah yax yc7 xZ2
def xM3:SpL:=[(55,mkF s55 G55),(56,mkF s56 G56),(58,mkF s58 G58)]
def xOi:LpL:=[(3,mkL xF1 xP1)]
def xMt:SwL:=[]
def xWb:Tab:=xah xM3 xOi xMt
set_option linter.unusedVariables false
set_option maxRecDepth 100000
theorem t55 (a b c d e f g h i j k l m n o p q r:D) :
 let X1:=(decide ((0:Int)<=q.I/\q.I<(p.L.length:Int)));let X2:=List.getD (List.getD p.L q.I.toNat []) 0 default;(fnT C yem 55 s55 [a,b,c,d,e,f,g,h,i,j,k,l,m,n,o,p,q,r]).run =
 T.run (T.need X1 (T.ite (decide (D.I X2<(0:Int))) (T.leaf [D.b true]) (T.need X1 (T.leaf [D.b (decide (r.I<D.I X2))])))):=by
 intros
 kernel_rfl
theorem t56 (a b c d e f g h i j k l m n o p q:D):(fnT C yel 56 s56 [a,b,c,d,e,f,g,h,i,j,k,l,m,n,o,p,q]).run =
 T.run (T.need (decide ((0:Int)<=q.I/\q.I<(a.L.length:Int))) (T.leaf [D.b (D.I (List.getD (List.getD a.L q.I.toNat []) 0 default) == (2:Int))])):=by kernel_rfl
theorem t58 (a b c d e f g h i j k l m n o p q r:D) :
 let X2:=List.getD o.L q.I.toNat [];let X3:=D.L (List.getD X2 (0+1+1) default);let X4:=D.L (List.getD X2 (0+1) default);let X1:=(if (0:Int)<byI a.L X4 X3 r.I.toNat then (1:Int) else (0:Int));(fnT C yek 58 s58 [a,b,c,d,e,f,g,h,i,j,k,l,m,n,o,p,q,r]).run =
 T.run (T.need (decide ((0:Int)<=q.I/\q.I<(o.L.length:Int))) (T.need (yes (xan a.L b.I c.I d.I e.I f.I g.L h.B i.I j.I k.I l.I m.L n.L/\xdl a.L (D.I (List.getD X2 0 default)) X4 X3/\(0:Int)<=r.I/\r.I<(a.L.length:Int))) (T.ite (X1 == (1:Int)) (T.leaf [D.i 1,D.i (IntKind.i64.wrap (byI a.L X4 X3 r.I.toNat*c.I))]) (T.ite (X1 == (2:Int)) (T.need (decide ((0:Int)<=r.I/\r.I<(a.L.length:Int))) (T.ite (!D.B (List.getD (List.getD a.L r.I.toNat []) (0+1+1+1) default)) (T.leaf [D.i 2,D.i (IntKind.i64.wrap (byI a.L X4 X3 r.I.toNat*d.I))]) (T.leaf [D.i X1,D.i 0]))) (T.leaf [D.i X1,D.i 0]))))):=by
 intros
 kernel_rfl
theorem t26 (a b c d e f g h i j k l m n o p q:D):(fnT C xWb 26 s26 [a,b,c,d,e,f,g,h,i,j,k,l,m,n,o,p,q]).run =
 T.run (T.need (yes ((xan a.L b.I c.I d.I e.I f.I g.L h.B i.I j.I k.I l.I m.L n.L/\xat a.L o.L/\xbi o.L p.L)/\(0:Int)<=q.I/\q.I<(o.L.length:Int)/\(a.L.length:Int)=(a.L.length:Int)/\((0:Int)<=(0:Int)/\(0:Int)<=(a.L.length:Int))/\(0:Int)=if (0:Int)=(a.L.length:Int) then xhb a.L o.L q.I.toNat*c.I else (0:Int))) (T.leaf [D.i (xhb a.L o.L q.I.toNat*c.I)])):=by kernel_rfl
theorem yfm (a b c d e f g h i j k l m n o p q r s t:D) :
 let X1:=D.L (List.getD (List.getD o.L q.I.toNat []) (0+1+1) default);(xb4 C xWb 26 (xaa C.P 26 3) xF1 [a,b,c,d,e,f,g,h,i,j,k,l,m,n,o,p,q,r,s,t]).run =
 T.run (T.ite (decide (t.I<s.I)) (T.need (yes (xbi o.L p.L/\(0:Int)<=q.I/\q.I<(o.L.length:Int))) (T.need (yes (xan a.L b.I c.I d.I e.I f.I g.L h.B i.I j.I k.I l.I m.L n.L/\(0:Int)<=t.I/\t.I<(a.L.length:Int))) (T.need (yes ((xan a.L b.I c.I d.I e.I f.I g.L h.B i.I j.I k.I l.I m.L n.L/\xat a.L o.L/\xbi o.L p.L)/\(0:Int)<=q.I/\q.I<(o.L.length:Int)/\(0:Int)<=t.I/\t.I<(a.L.length:Int))) (T.need (decide ((0:Int)<=q.I/\q.I<(o.L.length:Int))) (T.need (decide ((0:Int)<=t.I/\t.I<(↑(List.length X1):Int))) (T.ite (D.B (List.getD (List.getD X1 t.I.toNat []) (0+1+1) default)) T.fail (T.leaf (Rd.again [D.l a.L,D.i b.I,D.i c.I,D.i d.I,D.i e.I,D.i f.I,D.l g.L,D.b h.B,D.i i.I,D.i j.I,D.i k.I,D.i l.I,D.l m.L,D.l n.L,D.l o.L,D.l p.L,D.i q.I,D.i (IntKind.i64.wrap (r.I+byK a.L o.L q.I.toNat t.I.toNat*c.I)),D.i s.I,D.i (IntKind.i64.wrap (t.I+(1:Int)))])))))))) (T.leaf (Rd.out (Ex.exit 0) [D.i r.I]))):=by
 intros
 kernel_rfl
set_option maxRecDepth 100000
theorem xUb (n:Nat):xbo C (n+1) 55 (mkF s55 G55):=by
 refine xbk hC (sp:=yaz) (lp:=yc9) (sw:=xZ4) trivial trivial (by kernel_rfl) [] (by kernel_rfl) rfl (fun k hk=>by cases hk) fun ds rr h=>?_
 unfold G55 at h;split at h
 ·rename_i l c la ea ml ll ju re mi no pe po pt ex cs ou k j;obtain ⟨hp,h⟩:=xab h;rw [xad] at hp;obtain ⟨⟨o1,o2⟩,k0,k1⟩:=hp;refine (t55 l c la ea ml ll ju re mi no pe po pt ex cs ou k j).trans ?_;rw [<- h];obtain ⟨q,hq⟩:∃ q:Nat,k.I=q:=⟨k.I.toNat,by omega⟩;simp only [hq,Int.toNat_natCast] at k0 k1 ⊢;have o3:((ou.L.getD q []).getD 0 default).I = -1:=o2 q (by omega);exact xau (by omega) (xIp (by omega) rfl)
 ·cases h
theorem xUa (n:Nat):xbo C (n+1) 56 (mkF s56 G56):=by
 refine xbk hC (sp:=yay) (lp:=yc8) (sw:=xZ3) trivial trivial (by kernel_rfl) [] (by kernel_rfl) rfl (fun k hk=>by cases hk) fun ds rr h=>?_
 unfold G56 at h;split at h
 ·rename_i l c la ea ml ll ju re mi no pe po pt ex cs ou j;obtain ⟨hp,h⟩:=xab h;rw [xad] at hp;obtain ⟨hp,j0,j1⟩:=hp;refine (t56 l c la ea ml ll ju re mi no pe po pt ex cs ou j).trans ?_;rw [<- h];obtain ⟨q,hq⟩:∃ q:Nat,j.I=q:=⟨j.I.toNat,by omega⟩;simp only [hq,Int.toNat_natCast] at j0 j1 ⊢;have g0:((l.L.getD q []).getD 0 default).I=1:=(hp.1.2 q (by omega)).1;rw [g0];exact xau (by omega) rfl
 ·cases h
theorem xsz {l cs:List (List D)} (hc:xat l cs) {k j:Nat} (hk:k<cs.length) (hj:j<l.length):0<=byK l cs k j/\byK l cs k j<=1000:=(xJb (hc.2 k hk) hj).2
theorem xuc {x y:Int} (h1:0<=x) (h2:x<=1000) (h3:0<=y) (h4:y<=1000000):0<=x*y/\x*y<=1000000000:=⟨Int.mul_nonneg h1 h3,by
 have:=Int.mul_le_mul h2 h4 h3 (by omega);omega⟩
theorem xT9 (n:Nat):xbo C (n+3) 58 (mkF s58 G58):=by
 refine xbk hC (sp:=yax) (lp:=yc7) (sw:=xZ2) ⟨xNw n,trivial⟩ trivial (by kernel_rfl) [] (by kernel_rfl) rfl (fun k hk=>by cases hk) fun ds rr h=>?_
 unfold G58 at h;split at h
 ·rename_i l c la ea ml ll ju re mi no pe po pt ex cs ou k j;obtain ⟨hp,h⟩:=xab h;rw [xad] at hp;obtain ⟨⟨hp,hc,ho⟩,k0,k1,j0,j1⟩:=hp;have hp0:=hp;refine (t58 l c la ea ml ll ju re mi no pe po pt ex cs ou k j).trans ?_;rw [<- h];obtain ⟨q,hq⟩:∃ q:Nat,k.I=q:=⟨k.I.toNat,by omega⟩;obtain ⟨r,hr⟩:∃ r:Nat,j.I=r:=⟨j.I.toNat,by omega⟩;simp only [hq,hr,Int.toNat_natCast,Nat.reduceAdd] at k0 k1 j0 j1 ⊢;obtain ⟨b1,b2⟩:=xsz hc (k:=q) (j:=r) (by omega) (by omega);have hb:byI l.L (((cs.L.getD q []).getD 1 default).L) (((cs.L.getD q []).getD 2 default).L) r=byK l.L cs.L q r:=rfl;obtain ⟨-,⟨-,a1,a2,-⟩,-⟩:=hp;obtain ⟨m1,m2⟩:=xuc b1 b2 a1 a2;have hw:IntKind.wrap .i64 (byK l.L cs.L q r*la.I)=byK l.L cs.L q r*la.I:=xas (by omega) (by omega);simp only [hb,hw];refine xau (by omega) (xai ⟨hp0,hc.2 q (by omega),by omega,by omega⟩ ?_);by_cases h0:0<byK l.L cs.L q r
  ·simp only [if_pos h0];exact xcx rfl rfl
  ·simp only [if_neg h0];have:byK l.L cs.L q r=0:=by omega
   rw [this,Int.zero_mul];exact xaq rfl (xaq rfl rfl)
 ·cases h
theorem ycg (n:Nat):xct C (n+3) 26 (xaa C.P 26 3) (mkL xF1 xP1):=by
 refine xbb hC (sp:=xM3) (lp:=xOi) (sw:=xMt) ⟨xUb (n+2),xUa (n+2),xT9 n,trivial⟩ trivial 0 [] (by kernel_rfl) rfl (fun k hk=>by cases hk) (by kernel_rfl) (fun ds=>((ds.getD 18 default).I - (ds.getD 19 default).I).toNat) fun ds rr h=>?_
 unfold xP1 at h;split at h
 ·rename_i l c la ea ml ll ju re mi no pe po pt ex cs ou k su nn i;obtain ⟨hp,h⟩:=xab h;rw [xad] at hp;obtain ⟨⟨hp,hc,ho⟩,k0,k1,hn,⟨i0,i1⟩,hsu⟩:=hp;obtain ⟨⟨l1,l2⟩,hl⟩:=hp.1;refine ⟨by rw [xa9];simp;omega,?_⟩;rw [show (xal C (xah xM3 xOi xMt) 26 (xaa C.P 26 3) 0 xF1 [l,c,la,ea,ml,ll,ju,re,mi,no,pe,po,pt,ex,cs,ou,k,su,nn,i]).run=_ from yfm l c la ea ml ll ju re mi no pe po pt ex cs ou k su nn i];obtain ⟨q,hq⟩:∃ q:Nat,k.I=q:=⟨k.I.toNat,by omega⟩;obtain ⟨r,hr⟩:∃ r:Nat,i.I=r:=⟨i.I.toNat,by omega⟩;simp only [hq,hr,hn,Int.toNat_natCast,Nat.reduceAdd] at k0 k1 i0 i1 hsu h ⊢;refine xa2 (fun hlt=>?_) fun hge=>?_
  ·have hq1:q<cs.L.length:=by omega
   have hr1:r<l.L.length:=by omega
   have hcq:=hc.2 q hq1;have hml:(lx (cs.L.getD q []) 2).length=l.L.length:=hcq.2.2.1;have hml':(((cs.L.getD q []).getD 2 default).L).length=l.L.length:=hml;obtain ⟨-,-,-,m4,-⟩:=hcq.2.2.2.1 r (by rw [hml];exact hr1);have m4:((((cs.L.getD q []).getD 2 default).L.getD r []).getD 2 default).B=false:=m4;obtain ⟨b1,b2⟩:=xsz hc hq1 hr1;obtain ⟨-,a1,a2,-⟩:=hp.2.1;obtain ⟨x1,x2⟩:=xuc b1 b2 a1 a2;rw [if_neg (by omega)] at hsu;have hs2:IntKind.wrap .i64 (su.I+byK l.L cs.L q r*la.I)=byK l.L cs.L q r*la.I:=by rw [hsu,Int.zero_add];exact xas (by omega) (by omega)
   have hby:byK l.L cs.L q r*la.I=if ((r+1:Nat):Int)=l.L.length then xhb l.L cs.L q*la.I else 0:=by
    by_cases e:r+1=l.L.length
    ·rw [if_pos (by omega)];unfold byK byI;rw [if_pos e];rfl
    ·rw [if_neg (by omega)];unfold byK byI;rw [if_neg e,Int.zero_mul]
   simp only [m4,hs2];refine xbe ⟨ho,by omega,k1⟩ (xbe ⟨hp,by omega,hlt⟩ (xbe ⟨⟨hp,hc,ho⟩,by omega,k1,by omega,hlt⟩ (xac (by omega) (xac (by omega) (xbr rfl ?_)))));rw [xbd (by omega)];exact xaj ((xam ⟨⟨hp,hc,ho⟩,by simp only [I_i];omega,by simp only [I_i,L_l];exact k1,rfl,⟨by simp only [I_i];omega,by simp only [I_i,L_l];omega⟩,hby⟩).trans (by simpa only [I_i,L_l,Int.toNat_natCast] using h)) (show ((l.L.length:Int) - ((r+1:Nat):Int)).toNat<(nn.I - i.I).toNat by omega)
  ·rw [if_pos (by omega)] at hsu;rw [hsu];exact xao h
 ·cases h
theorem ych (n:Nat):xbo C (n+4) 26 (mkF s26 G26):=by
 refine xbk hC (sp:=xM3) (lp:=xOi) (sw:=xMt) ⟨xUb (n+2),xUa (n+2),xT9 n,trivial⟩ trivial (by kernel_rfl) [3] (by kernel_rfl) (by kernel_rfl) (fun k hk L hL=>by simp at hk;subst hk;cases hL;exact ycg n) fun ds rr h=>?_
 unfold G26 at h;split at h
 ·rename_i l c la ea ml ll ju re mi no pe po pt ex cs ou k;obtain ⟨hp,h⟩:=xab h;rw [xad] at hp;obtain ⟨hp,k0,k1⟩:=hp;obtain ⟨⟨l1,l2⟩,-⟩:=hp.1.1;refine (t26 l c la ea ml ll ju re mi no pe po pt ex cs ou k).trans ?_;rw [<- h];exact xai ⟨hp,k0,k1,rfl,⟨by omega,by omega⟩,by rw [if_neg (by omega)]⟩ rfl
 ·cases h
def s61:SigW:=⟨[aPl,kIn],[],[(.fn 82 [] [.ptr 0 14 0 0,.ptr 1 1 0 0],[bPl,.box [kIn]])]⟩
noncomputable section
def G61 (ds:List D):T (List D):=match ds with
 | [l,c,la,ea,ml,ll,ju,re,mi,no,pe,po,pt,ex,n]=>.leaf [.l l.L,.i c.I,.i la.I,.i ea.I,.i ml.I,.i ll.I,.l ju.L,.b re.B,.i mi.I,.i no.I,.i pe.I,.i po.I,.l pt.L,.l ex.L,.i n.I]
 | _=>.fail
end
def yav:SpL:=[]
def yc5:LpL:=[]
def xZ0:SwL:=[]
def yei:Tab:=xah yav yc5 xZ0
set_option linter.unusedVariables false
set_option maxRecDepth 100000
theorem t61 (a b c d e f g h i j k l m n o:D):(xh2 C yei 61 s61 [a,b,c,d,e,f,g,h,i,j,k,l,m,n,o]).run =
 T.run (T.leaf [D.l a.L,D.i b.I,D.i c.I,D.i d.I,D.i e.I,D.i f.I,D.l g.L,D.b h.B,D.i i.I,D.i j.I,D.i k.I,D.i l.I,D.l m.L,D.l n.L,D.i o.I]):=by kernel_rfl
set_option maxRecDepth 100000
theorem xT8 (n:Nat):xeu C (n+1) 61 (xdm s61 G61):=by
 refine xfi hC (sp:=yav) (lp:=yc5) (sw:=xZ0) trivial trivial (by kernel_rfl) [] (by kernel_rfl) rfl (fun k hk=>by cases hk) fun ds rr h=>?_
 unfold G61 at h;split at h
 ·rename_i l c la ea ml ll ju re mi no pe po pt ex n;exact (t61 l c la ea ml ll ju re mi no pe po pt ex n).trans h
 ·cases h
def s82:SigI:=⟨[.yl,.ptr 0 14 0 0,.ptr 1 1 0 0],[bPl,.box [kIn]]⟩
def y82:YS:=mkY [kIn] [] false
def xFo:LSig:=xcu [0,2,7,8,9] [(25,[(0,.yl),(2,.ptr 1 1 0 0),(7,kIs),(8,kIn),(9,kIn)],[bPl,.box [kIn]])] [(.ret,[],[(25,[],[bPl,.box [kIn]])]),(.exit 0,[],[(25,[],[bPl,.box [kIn]])])]
def s28:Sig:=⟨[aPl,.agg [kIn,kRo,kLs]],[(kIn,[])]⟩
def xv7:List Shp:=[xz4 (74,[(2,.ptr 0 14 0 0),(3,.ptr 1 3 0 0),(4,.ptr 2 1 0 0),(5,.ptr 3 1 0 0),(6,.ptr 4 1 0 0),(7,.ptr 5 1 0 0),(21,kIn),(22,kIn),(27,.fn 82 [] [.any,.any])],[bPl,.box [kIn,kRo,kLs],.box [kIn],.box [kIn],.box [kIn],.box [kIn]])]
def xFz:LSig:=xcu [2,3,4,5,21,22] [(74,[(2,.ptr 0 14 0 0),(3,.ptr 1 3 0 0),(4,.ptr 2 1 0 0),(5,.ptr 3 1 0 0),(21,kIn),(22,kIn)],[bPl,.box [kIn,kRo,kLs],.box [kIn],.box [kIn]])] [(.ret,[4],[(74,[(4,.ptr 0 1 0 0)],[.box [kIn]])]),(.exit 0,[4],[(74,[(4,.ptr 0 1 0 0)],[.box [kIn]])])]
def s11:Sig:=⟨[aPl,.agg [kIn,kRo,kLs]],[(.tup [kIn,kIn],[])]⟩
def s25:SigW:=⟨[aPl,kCs],[],[(.tup [.ptr 0 16 0 0,kBo],[.box (pPl++[kCs,.sl 1 1]),bRo])]⟩
def xvx:LSig:=xcu [2,6,26,27,28] [(46,[(2,.ptr 0 14 0 0),(6,.ptr 1 16 0 0),(26,kCs),(27,kIn),(28,kIn)],[bPl,.box (pPl++[kCs,.nils])]),(46,[(2,.ptr 0 14 0 0),(6,.ptr 1 16 0 0),(26,kCs),(27,kIn),(28,kIn)],[bPl,.box (pPl++[kCs,.sl 2 1]),bRo])] [(.exit 0,[6],[(46,[(6,.ptr 0 16 0 0)],[.box (pPl++[kCs,.nils])]),(46,[(6,.ptr 0 16 0 0)],[.box (pPl++[kCs,.sl 1 1]),bRo])])]
def xNg:SigW:=⟨[aPl,.sl 0 3],[bCs],[(.tup [.ptr 1 16 0 0,kBo],[bCs,.box (pPl++[.sl 0 3,.sl 2 1]),bRo])]⟩
def xof:LSig:=xcu [2,6,26,27,28] [(46,[(2,.ptr 1 14 0 0),(6,.ptr 2 16 0 0),(26,.sl 0 3),(27,kIn),(28,kIn)],[bCs,bPl,.box (pPl++[.sl 0 3,.nils])]),(46,[(2,.ptr 1 14 0 0),(6,.ptr 2 16 0 0),(26,.sl 0 3),(27,kIn),(28,kIn)],[bCs,bPl,.box (pPl++[.sl 0 3,.sl 3 1]),bRo])] [(.exit 0,[6],[(46,[(6,.ptr 1 16 0 0)],[bCs,.box (pPl++[.sl 0 3,.nils])]),(46,[(6,.ptr 1 16 0 0)],[bCs,.box (pPl++[.sl 0 3,.sl 2 1]),bRo])])]
def s10:Sig:=⟨[aPl,kCs,kIn],[(.tup [kIn,kIn],[])]⟩
def s30:Sig:=⟨[.eptr (pPl++[kCs,kRo]),.agg [kIn,kIn,kIn]],[(.tup [kIn,kBo],[])]⟩
def s67:Sig:=⟨[.eptr (pPl++[kCs,kRo]),.agg [kIn,kIn,kIn]],[(kBo,[])]⟩
def s31:Sig:=⟨[.eptr (pPl++[kCs,kRo]),.agg [kIn,kIn,kIn]],[(.nils,[]),(.sl 0 3,[bKs])]⟩
def xra:LSig:=xcu [0,3,5,87,88] [(109,[(0,.eptr (pPl++[kCs,kRo])),(3,.ptr 0 3 0 0),(5,.nils),(87,kIn),(88,kIn)],[.box [kIn,kIn,kIn]]),(109,[(0,.eptr (pPl++[kCs,kRo])),(3,.ptr 0 3 0 0),(5,.sl 1 3),(87,kIn),(88,kIn)],[.box [kIn,kIn,kIn],bKs])] [(.exit 9,[5],[(109,[(5,.nils)],[]),(109,[(5,.sl 0 3)],[bKs])])]
def xq9:LSig:=xcu [0,3,5,11,12,87,88] [(109,[(0,.eptr (pPl++[kCs,kRo])),(3,.ptr 0 3 0 0),(5,.nils),(11,kIn),(12,kIn),(87,kIn),(88,kIn)],[.box [kIn,kIn,kIn]]),(109,[(0,.eptr (pPl++[kCs,kRo])),(3,.ptr 0 3 0 0),(5,.sl 1 3),(11,kIn),(12,kIn),(87,kIn),(88,kIn)],[.box [kIn,kIn,kIn],bKs])] [(.exit 11,[0,3,5,87,88],[(109,[(0,.eptr (pPl++[kCs,kRo])),(3,.ptr 0 3 0 0),(5,.nils),(87,kIn),(88,kIn)],[.box [kIn,kIn,kIn]]),(109,[(0,.eptr (pPl++[kCs,kRo])),(3,.ptr 0 3 0 0),(5,.sl 1 3),(87,kIn),(88,kIn)],[.box [kIn,kIn,kIn],bKs])])]
noncomputable section
def xdu (l:List (List D)) (n:Int):Nat->Nat->List (List D)
 | _,0=>[]
 | i,k+1=>if xd8 l i=n then [.i (i:Int)]::xdu l n (i+1) k else xdu l n (i+1) k
def xfd (n:Nat):List (List D):=List.replicate n [.i (-1)]
def xbc (l cs:List (List D)) (la:Int) (k:Nat):Int:=xhb l cs k*la
def xi1 (l cs:List (List D)) (la kd:Int) (k j:Nat):Int:=if kd=7 then xbc l cs la k else if kd=4\/kd=5 then byK l cs k j*la else 0
def xc7 (l cs:List (List D)) (la kd:Int) (k j:Nat):Bool:=decide (kd=7/\j=0) || decide (kd=4/\0<byK l cs k j*la)
def G82 (ds:List D):T (List (List D)):=match ds with
 | [l,c,la,ea,ml,ll,ju,re,mi,no,pe,po,pt,ex,n]=>.need (yes (xan l.L c.I la.I ea.I ml.I ll.I ju.L re.B mi.I no.I pe.I po.I pt.L ex.L)) (.leaf (xdu l.L n.I 0 l.L.length))
 | _=>.fail
def xF9 (q:Nat) (ds:List D):T (Ex×List D):=match ds with
 | [g,l',w,i,l,c,la,ea,ml,ll,ju,re,mi,no,pe,po,pt,ex,n]=>.need (yes (xan l.L c.I la.I ea.I ml.I ll.I ju.L re.B mi.I no.I pe.I po.I pt.L ex.L/\l'.L=l.L/\w.I=l.L.length/\(0<=i.I/\i.I<=l.L.length)/\g.L.length<=q)) (.ite (decide (q<g.L.length+(xdu l.L n.I i.I.toNat (l.L.length - i.I.toNat)).length)) (.leaf (.ret,[.l (g.L++(xdu l.L n.I i.I.toNat (l.L.length - i.I.toNat)).take (q+1 - g.L.length)),.l l.L,.i c.I,.i la.I,.i ea.I,.i ml.I,.i ll.I,.l ju.L,.b re.B,.i mi.I,.i no.I,.i pe.I,.i po.I,.l pt.L,.l ex.L,.i n.I])) (.leaf (.exit 0,[.l (g.L++xdu l.L n.I i.I.toNat (l.L.length - i.I.toNat)),.l l.L,.i c.I,.i la.I,.i ea.I,.i ml.I,.i ll.I,.l ju.L,.b re.B,.i mi.I,.i no.I,.i pe.I,.i po.I,.l pt.L,.l ex.L,.i n.I])))
 | _=>.fail
def xGv (l s m:List (List D)) (n:Int):Int:=if xd8 l (l.length - 1)=n then xpv l s m else 0
def xPz (L:List (List D)) (ds:List D):T (Ex×List D):=match ds with
 | [x,y,l,c,la,ea,ml,ll,ju,re,mi,no,pe,po,pt,ex,cl,s,m,r,z,n,u]=>.need (yes (xan l.L c.I la.I ea.I ml.I ll.I ju.L re.B mi.I no.I pe.I po.I pt.L ex.L/\xdl l.L cl.I s.L m.L/\L=xdu l.L n.I 0 l.L.length/\u.I=0)) (.leaf (.normal,[.i x.I,.i y.I,.l l.L,.i c.I,.i la.I,.i ea.I,.i ml.I,.i ll.I,.l ju.L,.b re.B,.i mi.I,.i no.I,.i pe.I,.i po.I,.l pt.L,.l ex.L,.i cl.I,.l s.L,.l m.L,.i r.I,.i z.I,.i n.I,.i (xGv l.L s.L m.L n.I)]))
 | _=>.fail
def xP0 (ds:List D):T (Ex×List D):=match ds with
 | [x,y,l,c,la,ea,ml,ll,ju,re,mi,no,pe,po,pt,ex,cl,s,m,r,z]=>.need (yes (xan l.L c.I la.I ea.I ml.I ll.I ju.L re.B mi.I no.I pe.I po.I pt.L ex.L/\xdl l.L cl.I s.L m.L/\z.I=xd8 l.L (l.L.length - 1)/\x.I=z.I+1/\0<=y.I/\y.I<=x.I)) (.leaf (.exit 0,[.i r.I]))
 | _=>.fail
def G28 (ds:List D):T (List D):=match ds with
 | [l,c,la,ea,ml,ll,ju,re,mi,no,pe,po,pt,ex,cl,s,m]=>.need (yes (xan l.L c.I la.I ea.I ml.I ll.I ju.L re.B mi.I no.I pe.I po.I pt.L ex.L/\xdl l.L cl.I s.L m.L)) (.leaf [.i (-1)])
 | _=>.fail
def G11 (ds:List D):T (List D):=match ds with
 | [l,c,la,ea,ml,ll,ju,re,mi,no,pe,po,pt,ex,cl,s,m]=>.need (yes (xan l.L c.I la.I ea.I ml.I ll.I ju.L re.B mi.I no.I pe.I po.I pt.L ex.L/\xdl l.L cl.I s.L m.L)) (.leaf [.i (-1),.i 0])
 | _=>.fail
def xP2 (ds:List D):T (Ex×List D):=match ds with
 | h::cs'::x::[i,l,c,la,ea,ml,ll,ju,re,mi,no,pe,po,pt,ex,l',c',la',ea',ml',ll',ju',re',mi',no',pe',po',pt',ex',cs]=>.need (yes ((h.I=0/\xan l.L c.I la.I ea.I ml.I ll.I ju.L re.B mi.I no.I pe.I po.I pt.L ex.L/\xat l.L cs.L)/\cs'.L=cs.L/\x.I=cs.L.length/\i.I=0)) (.leaf (.exit 0,[.i 1,.l l'.L,.i c'.I,.i la'.I,.i ea'.I,.i ml'.I,.i ll'.I,.l ju'.L,.b re'.B,.i mi'.I,.i no'.I,.i pe'.I,.i po'.I,.l pt'.L,.l ex'.L,.l cs.L,.i cs.L.length,.l (xfd cs.L.length)]))
 | h::cs'::x::i::l::[c,la,ea,ml,ll,ju,re,mi,no,pe,po,pt,ex,l',c',la',ea',ml',ll',ju',re',mi',no',pe',po',pt',ex',cs,n,ou]=>.need (yes ((h.I=1/\xan l.L c.I la.I ea.I ml.I ll.I ju.L re.B mi.I no.I pe.I po.I pt.L ex.L/\xat l.L cs.L)/\cs'.L=cs.L/\x.I=cs.L.length/\(1<=i.I/\i.I<=cs.L.length)/\n.I=i.I/\ou.L=xfd i.I.toNat)) (.leaf (.exit 0,[.i 1,.l l'.L,.i c'.I,.i la'.I,.i ea'.I,.i ml'.I,.i ll'.I,.l ju'.L,.b re'.B,.i mi'.I,.i no'.I,.i pe'.I,.i po'.I,.l pt'.L,.l ex'.L,.l cs.L,.i cs.L.length,.l (xfd cs.L.length)]))
 | _=>.fail
def G25 (ds:List D):T (List D):=match ds with
 | [l,c,la,ea,ml,ll,ju,re,mi,no,pe,po,pt,ex,cs]=>.need (yes (xan l.L c.I la.I ea.I ml.I ll.I ju.L re.B mi.I no.I pe.I po.I pt.L ex.L/\xat l.L cs.L)) (.leaf [.b true,.l l.L,.i c.I,.i la.I,.i ea.I,.i ml.I,.i ll.I,.l ju.L,.b re.B,.i mi.I,.i no.I,.i pe.I,.i po.I,.l pt.L,.l ex.L,.l cs.L,.i cs.L.length,.l (xfd cs.L.length)])
 | _=>.fail
def xC6 (ds:List D):T (Ex×List D):=match ds with
 | h::v::x::i::[cs,l,c,la,ea,ml,ll,ju,re,mi,no,pe,po,pt,ex,l',c',la',ea',ml',ll',ju',re',mi',no',pe',po',pt',ex',w]=>.need (yes ((h.I=0/\xan l.L c.I la.I ea.I ml.I ll.I ju.L re.B mi.I no.I pe.I po.I pt.L ex.L/\xat l.L cs.L)/\v.I=cs.L.length/\w.I=cs.L.length/\x.I=cs.L.length/\i.I=0)) (.leaf (.exit 0,[.i 1,.l cs.L,.l l'.L,.i c'.I,.i la'.I,.i ea'.I,.i ml'.I,.i ll'.I,.l ju'.L,.b re'.B,.i mi'.I,.i no'.I,.i pe'.I,.i po'.I,.l pt'.L,.l ex'.L,.i cs.L.length,.i cs.L.length,.l (xfd cs.L.length)]))
 | h::v::x::i::cs::l::[c,la,ea,ml,ll,ju,re,mi,no,pe,po,pt,ex,l',c',la',ea',ml',ll',ju',re',mi',no',pe',po',pt',ex',w,n,ou]=>.need (yes ((h.I=1/\xan l.L c.I la.I ea.I ml.I ll.I ju.L re.B mi.I no.I pe.I po.I pt.L ex.L/\xat l.L cs.L)/\v.I=cs.L.length/\w.I=cs.L.length/\x.I=cs.L.length/\(1<=i.I/\i.I<=cs.L.length)/\n.I=i.I/\ou.L=xfd i.I.toNat)) (.leaf (.exit 0,[.i 1,.l cs.L,.l l'.L,.i c'.I,.i la'.I,.i ea'.I,.i ml'.I,.i ll'.I,.l ju'.L,.b re'.B,.i mi'.I,.i no'.I,.i pe'.I,.i po'.I,.l pt'.L,.l ex'.L,.i cs.L.length,.i cs.L.length,.l (xfd cs.L.length)]))
 | _=>.fail
def xQf (ds:List D):T (List D):=match ds with
 | [l,c,la,ea,ml,ll,ju,re,mi,no,pe,po,pt,ex,w,cs]=>.need (yes (xan l.L c.I la.I ea.I ml.I ll.I ju.L re.B mi.I no.I pe.I po.I pt.L ex.L/\xat l.L cs.L/\w.I=cs.L.length)) (.leaf [.b true,.l cs.L,.l l.L,.i c.I,.i la.I,.i ea.I,.i ml.I,.i ll.I,.l ju.L,.b re.B,.i mi.I,.i no.I,.i pe.I,.i po.I,.l pt.L,.l ex.L,.i cs.L.length,.i cs.L.length,.l (xfd cs.L.length)])
 | _=>.fail
def G10 (ds:List D):T (List D):=match ds with
 | [l,c,la,ea,ml,ll,ju,re,mi,no,pe,po,pt,ex,cs,k]=>.need (yes (xan l.L c.I la.I ea.I ml.I ll.I ju.L re.B mi.I no.I pe.I po.I pt.L ex.L/\xat l.L cs.L/\0<=k.I/\k.I<cs.L.length)) (.leaf [.i (xbc l.L cs.L la.I k.I.toNat),.i 0])
 | _=>.fail
def G30 (ds:List D):T (List D):=match ds with
 | [l,c,la,ea,ml,ll,ju,re,mi,no,pe,po,pt,ex,cs,ou,kd,k,j]=>.need (yes ((xan l.L c.I la.I ea.I ml.I ll.I ju.L re.B mi.I no.I pe.I po.I pt.L ex.L/\xat l.L cs.L/\xbi cs.L ou.L)/\(1<=kd.I/\kd.I<=7)/\(0<=k.I/\k.I<cs.L.length)/\0<=j.I/\j.I<l.L.length)) (.leaf [.i (xi1 l.L cs.L la.I kd.I k.I.toNat j.I.toNat),.b (xc7 l.L cs.L la.I kd.I k.I.toNat j.I.toNat)])
 | _=>.fail
def G67 (ds:List D):T (List D):=match ds with
 | [l,c,la,ea,ml,ll,ju,re,mi,no,pe,po,pt,ex,cs,ou,kd,k,j]=>.need (yes ((xan l.L c.I la.I ea.I ml.I ll.I ju.L re.B mi.I no.I pe.I po.I pt.L ex.L/\xat l.L cs.L/\xbi cs.L ou.L)/\(1<=kd.I/\kd.I<=7)/\(0<=k.I/\k.I<cs.L.length)/\0<=j.I/\j.I<l.L.length)) (.leaf [.b (xc7 l.L cs.L la.I kd.I k.I.toNat j.I.toNat)])
 | _=>.fail
def xJ2 (ds:List D):T (Ex×List D):=match ds with
 | [h,l,c,la,ea,ml,ll,ju,re,mi,no,pe,po,pt,ex,cs,ou,i',c',x,i,kd,k,j]=>.need (yes ((h.I=0/\(xan l.L c.I la.I ea.I ml.I ll.I ju.L re.B mi.I no.I pe.I po.I pt.L ex.L/\xat l.L cs.L/\xbi cs.L ou.L))/\kd.I=7/\(0<=k.I/\k.I<cs.L.length)/\x.I=l.L.length/\i'.I=i.I/\(0<=i.I/\i.I<l.L.length)/\1<=c'.I/\c'.I<=7)) (.ite (decide ((i.I=(l.L.length - 1:Nat)/\c'.I<=4)/\0<xbc l.L cs.L la.I k.I.toNat)) (.leaf (.exit 11,[.i 1,.l l.L,.i c.I,.i la.I,.i ea.I,.i ml.I,.i ll.I,.l ju.L,.b re.B,.i mi.I,.i no.I,.i pe.I,.i po.I,.l pt.L,.l ex.L,.l cs.L,.l ou.L,.i 1,.i x.I,.i i.I,.i kd.I,.i k.I,.i j.I,.l [[.i 4,.i k.I,.i ((l.L.length - 1:Nat):Int)]]])) (.leaf (.exit 11,[.i 0,.l l.L,.i c.I,.i la.I,.i ea.I,.i ml.I,.i ll.I,.l ju.L,.b re.B,.i mi.I,.i no.I,.i pe.I,.i po.I,.l pt.L,.l ex.L,.l cs.L,.l ou.L,.i x.I,.i i.I,.i kd.I,.i k.I,.i j.I])))
 | [h,l,c,la,ea,ml,ll,ju,re,mi,no,pe,po,pt,ex,cs,ou,n,i',c',x,i,kd,k,j,r]=>.need (yes ((h.I=1/\(xan l.L c.I la.I ea.I ml.I ll.I ju.L re.B mi.I no.I pe.I po.I pt.L ex.L/\xat l.L cs.L/\xbi cs.L ou.L))/\kd.I=7/\(0<=k.I/\k.I<cs.L.length)/\x.I=l.L.length/\i'.I=i.I/\(0<=i.I/\i.I<l.L.length)/\(5<=c'.I/\c'.I<=7)/\n.I=1)) (.leaf (.exit 11,[.i 1,.l l.L,.i c.I,.i la.I,.i ea.I,.i ml.I,.i ll.I,.l ju.L,.b re.B,.i mi.I,.i no.I,.i pe.I,.i po.I,.l pt.L,.l ex.L,.l cs.L,.l ou.L,.i 1,.i x.I,.i i.I,.i kd.I,.i k.I,.i j.I,.l r.L]))
 | _=>.fail
def xJ3 (ds:List D):T (Ex×List D):=match ds with
 | [h,l,c,la,ea,ml,ll,ju,re,mi,no,pe,po,pt,ex,cs,ou,x,i,kd,k,_]=>.need (yes ((h.I=0/\(xan l.L c.I la.I ea.I ml.I ll.I ju.L re.B mi.I no.I pe.I po.I pt.L ex.L/\xat l.L cs.L/\xbi cs.L ou.L))/\kd.I=7/\(0<=k.I/\k.I<cs.L.length)/\x.I=l.L.length/\(0<=i.I/\i.I<=l.L.length)/\(i.I=l.L.length->¬ 0<xbc l.L cs.L la.I k.I.toNat))) (.ite (decide (0<xbc l.L cs.L la.I k.I.toNat)) (.leaf (.exit 9,[.i 1,.i 1,.l [[.i 4,.i k.I,.i ((l.L.length - 1:Nat):Int)]]])) (.leaf (.exit 9,[.i 0])))
 | [h,l,c,la,ea,ml,ll,ju,re,mi,no,pe,po,pt,ex,cs,ou,n,x,i,kd,k,_,r]=>.need (yes ((h.I=1/\(xan l.L c.I la.I ea.I ml.I ll.I ju.L re.B mi.I no.I pe.I po.I pt.L ex.L/\xat l.L cs.L/\xbi cs.L ou.L))/\kd.I=7/\(0<=k.I/\k.I<cs.L.length)/\x.I=l.L.length/\i.I=l.L.length/\n.I=1/\r.L=[[.i 4,.i k.I,.i ((l.L.length - 1:Nat):Int)]])) (.leaf (.exit 9,[.i 1,.i 1,.l [[.i 4,.i k.I,.i ((l.L.length - 1:Nat):Int)]]]))
 | _=>.fail
def G31 (ds:List D):T (List D):=match ds with
 | [l,c,la,ea,ml,ll,ju,re,mi,no,pe,po,pt,ex,cs,ou,kd,k,j]=>.need (yes ((xan l.L c.I la.I ea.I ml.I ll.I ju.L re.B mi.I no.I pe.I po.I pt.L ex.L/\xat l.L cs.L/\xbi cs.L ou.L)/\(kd.I=4\/kd.I=7)/\(0<=k.I/\k.I<cs.L.length)/\0<=j.I/\j.I<l.L.length)) (.ite (decide (kd.I=7/\0<xbc l.L cs.L la.I k.I.toNat)) (.leaf [.i 1,.i 1,.l [[.i 4,.i k.I,.i ((l.L.length - 1:Nat):Int)]]]) (.leaf [.i 0]))
 | _=>.fail
end
def xMy:SpL:=[]
def xOd (q:Nat):LpL:=[(1,xr9 2 xFo (xF9 q))]
def xMo:SwL:=[]
def xE5 (q:Nat):Tab:=xjj xMy (xOd q) xMo y82 q
def xIk:ItL:=[(82,xx8 s82 G82)]
def xG2:SpL:=[(62,mkF s62 G62)]
def xH1:LpL:=[(3,mkL xFz xP0)]
def xGq:SwL:=[(61,xdm s61 G61)]
def xHh:LpL:=[(8,xov 0 [2,3,4,5,6,7,21,22,27] (xcb C.P 28 8).1 xIk xv7 xPz)]
def xE9:Tab:=xly xG2 xH1 xGq xHh
def ybg:SpL:=[(27,mkF s27 G27),(28,mkF s28 G28)]
def ydq:LpL:=[]
def yal:SwL:=[]
def ye4:Tab:=xah ybg ydq yal
def xG3:SpL:=[(9,mkF s9 G9),(53,mkF s53 G53),(28,mkF s28 G28),(54,mkF s54 G54)]
def xH2:LpL:=[(5,mkL xvx xP2)]
def xGr:SwL:=[]
def xMj:Tab:=xah xG3 xH2 xGr
def xtw:SpL:=[(9,mkF s9 G9),(53,mkF s53 G53),(28,mkF s28 G28),(54,mkF s54 G54)]
def xuh:LpL:=[(5,xde 1 xof xC6)]
def xtr:SwL:=[]
def xBv:Tab:=xah xtw xuh xtr
def ybh:SpL:=[(23,mkF s23 G23),(26,mkF s26 G26)]
def ydr:LpL:=[]
def yam:SwL:=[(25,xdm s25 G25)]
def ye5:Tab:=xah ybh ydr yam
def yba:SpL:=[(26,mkF s26 G26),(55,mkF s55 G55),(56,mkF s56 G56),(58,mkF s58 G58)]
def ydk:LpL:=[]
def yaf:SwL:=[]
def yey:Tab:=xah yba ydk yaf
def yat:SpL:=[(30,mkF s30 G30)]
def yc3:LpL:=[]
def xZy:SwL:=[]
def yeg:Tab:=xah yat yc3 xZy
def xtv:SpL:=[(67,mkF s67 G67)]
def xug:LpL:=[(20,mkL xra xJ3),(23,mkL xq9 xJ2)]
def xtq:SwL:=[]
def xy3:Tab:=xah xtv xug xtq
set_option linter.unusedVariables false
set_option maxRecDepth 100000
theorem t82 (q:Nat) (a b c d e f g h i j k l m n o:D) :
 let X1:=(xdu a.L o.I (Int.toNat (0:Int)) (a.L.length - Int.toNat (0:Int)));(xIw C (xE5 q) 82 s82 [a,b,c,d,e,f,g,h,i,j,k,l,m,n,o]).run =
 T.run (T.need (yes (xan a.L b.I c.I d.I e.I f.I g.L h.B i.I j.I k.I l.I m.L n.L/\a.L=a.L/\(a.L.length:Int)=(a.L.length:Int)/\((0:Int)<=(0:Int)/\(0:Int)<=(a.L.length:Int))/\List.length ([]:List (List D))<=q)) (T.ite (decide (q<List.length ([]:List (List D))+List.length X1)) (T.leaf ([]++List.take (q+1 - List.length ([]:List (List D))) X1)) (T.leaf ([]++xdu a.L o.I (Int.toNat (0:Int)) (a.L.length - Int.toNat (0:Int)))))):=by
 intros
 kernel_rfl
theorem ye7 (q:Nat) (a b c d e f g h i j k l m n o p q1 r s:D) :
 let X1:=(IntKind.i64.wrap (d.I+(1:Int)));let X2:=a.L++[[D.i d.I]++[]++[]];(xjy C (xE5 q) 82 (xaa C.P 82 1) 2 xFo [a,b,c,d,e,f,g,h,i,j,k,l,m,n,o,p,q1,r,s]).run =
 T.run (T.ite (decide (d.I<c.I)) (T.need (decide ((0:Int)<=d.I/\d.I<(b.L.length:Int))) (T.ite (D.I (List.getD (List.getD b.L d.I.toNat []) (0+1) default) == s.I) (T.ite (!!a.L.length == (xE5 q).q) (T.leaf (Rd.out Ex.ret [D.l X2,D.l e.L,D.i f.I,D.i g.I,D.i h.I,D.i i.I,D.i j.I,D.l k.L,D.b l.B,D.i m.I,D.i n.I,D.i o.I,D.i p.I,D.l q1.L,D.l r.L,D.i s.I])) (T.leaf (Rd.again [D.l X2,D.l b.L,D.i c.I,D.i X1,D.l e.L,D.i f.I,D.i g.I,D.i h.I,D.i i.I,D.i j.I,D.l k.L,D.b l.B,D.i m.I,D.i n.I,D.i o.I,D.i p.I,D.l q1.L,D.l r.L,D.i s.I]))) (T.leaf (Rd.again [D.l a.L,D.l b.L,D.i c.I,D.i X1,D.l e.L,D.i f.I,D.i g.I,D.i h.I,D.i i.I,D.i j.I,D.l k.L,D.b l.B,D.i m.I,D.i n.I,D.i o.I,D.i p.I,D.l q1.L,D.l r.L,D.i s.I])))) (T.leaf (Rd.out (Ex.exit 0) [D.l a.L,D.l e.L,D.i f.I,D.i g.I,D.i h.I,D.i i.I,D.i j.I,D.l k.L,D.b l.B,D.i m.I,D.i n.I,D.i o.I,D.i p.I,D.l q1.L,D.l r.L,D.i s.I]))):=by
 intros
 kernel_rfl
theorem t28 (a b c d e f g h i j k l m n o p q:D) :
 let X2:=((a.L.length:Int) - (1:Int));let X1:=List.getD (List.getD a.L (Int.toNat (IntKind.i64.wrap X2)) []) (0+1) default;(fnT C xE9 28 s28 [a,b,c,d,e,f,g,h,i,j,k,l,m,n,o,p,q]).run =
 T.run (T.need (decide ((0:Int)<=IntKind.i64.wrap X2/\IntKind.i64.wrap X2<(a.L.length:Int))) (T.need (yes (xan a.L b.I c.I d.I e.I f.I g.L h.B i.I j.I k.I l.I m.L n.L/\xdl a.L o.I p.L q.L/\D.I X1=xd8 a.L (a.L.length - 1)/\IntKind.i64.wrap (D.I X1+(1:Int))=D.I X1+(1:Int)/\(0:Int)<=(0:Int)/\(0:Int)<=IntKind.i64.wrap (D.I X1+(1:Int)))) (T.leaf [D.i (-1:Int)]))):=by
 intros
 kernel_rfl
theorem yfk (a b c d e f g h i j k l m n o p q r s t u:D):(xb4 C xE9 28 (xaa C.P 28 3) xFz [a,b,c,d,e,f,g,h,i,j,k,l,m,n,o,p,q,r,s,t,u]).run =
 T.run (T.ite (decide (b.I<a.I)) (T.need (yes (xan c.L d.I e.I f.I g.I h.I i.L j.B k.I l.I m.I n.I o.L p.L)) (T.need (yes (xan c.L d.I e.I f.I g.I h.I i.L j.B k.I l.I m.I n.I o.L p.L/\xdl c.L q.I r.L s.L/\xdu c.L b.I 0 c.L.length=xdu c.L b.I 0 c.L.length/\(0:Int)=(0:Int))) (T.leaf (Rd.again [D.i a.I,D.i (IntKind.i64.wrap (b.I+(1:Int))),D.l c.L,D.i d.I,D.i e.I,D.i f.I,D.i g.I,D.i h.I,D.l i.L,D.b j.B,D.i k.I,D.i l.I,D.i m.I,D.i n.I,D.l o.L,D.l p.L,D.i q.I,D.l r.L,D.l s.L,D.i t.I,D.i u.I])))) (T.leaf (Rd.out (Ex.exit 0) [D.i t.I]))):=by kernel_rfl
theorem xZq (a b c d e f g h i j k l m n o p q r s t u v w x:D) :
 let X1:=T.need (yes (xan c.L d.I e.I f.I g.I h.I i.L j.B k.I l.I m.I n.I o.L p.L/\xdl c.L q.I r.L s.L/\(0:Int)<=x.I/\x.I<(c.L.length:Int))) (T.ite ((if (0:Int)<byI c.L r.L s.L x.I.toNat then (1:Int) else (0:Int)) == (1:Int)) (T.ite (decide (byI c.L r.L s.L x.I.toNat > g.I)) (T.leaf (Rd.out Ex.ret [D.i a.I,D.i b.I,D.l c.L,D.i d.I,D.i e.I,D.i f.I,D.i g.I,D.i h.I,D.l i.L,D.b j.B,D.i k.I,D.i l.I,D.i m.I,D.i n.I,D.l o.L,D.l p.L,D.i q.I,D.l r.L,D.l s.L,D.i x.I,D.i u.I,D.i v.I,D.i (IntKind.i64.wrap (w.I+byI c.L r.L s.L x.I.toNat))],[])) (T.ite (decide (IntKind.i64.wrap (w.I+byI c.L r.L s.L x.I.toNat) > h.I)) (T.leaf (Rd.out Ex.ret [D.i a.I,D.i b.I,D.l c.L,D.i d.I,D.i e.I,D.i f.I,D.i g.I,D.i h.I,D.l i.L,D.b j.B,D.i k.I,D.i l.I,D.i m.I,D.i n.I,D.l o.L,D.l p.L,D.i q.I,D.l r.L,D.l s.L,D.i x.I,D.i u.I,D.i v.I,D.i (IntKind.i64.wrap (w.I+byI c.L r.L s.L x.I.toNat))],[])) (T.leaf (Rd.again [D.i a.I,D.i b.I,D.l c.L,D.i d.I,D.i e.I,D.i f.I,D.i g.I,D.i h.I,D.l i.L,D.b j.B,D.i k.I,D.i l.I,D.i m.I,D.i n.I,D.l o.L,D.l p.L,D.i q.I,D.l r.L,D.l s.L,D.i t.I,D.i u.I,D.i v.I,D.i (IntKind.i64.wrap (w.I+byI c.L r.L s.L x.I.toNat))],[])))) (T.leaf (Rd.again [D.i a.I,D.i b.I,D.l c.L,D.i d.I,D.i e.I,D.i f.I,D.i g.I,D.i h.I,D.l i.L,D.b j.B,D.i k.I,D.i l.I,D.i m.I,D.i n.I,D.l o.L,D.l p.L,D.i q.I,D.l r.L,D.l s.L,D.i t.I,D.i u.I,D.i v.I,D.i w.I],[])));let X2:=T.leaf (Rd.out Ex.ret [D.i a.I,D.i b.I,D.l c.L,D.i d.I,D.i e.I,D.i f.I,D.i g.I,D.i h.I,D.l i.L,D.b j.B,D.i k.I,D.i l.I,D.i m.I,D.i n.I,D.l o.L,D.l p.L,D.i q.I,D.l r.L,D.l s.L,D.i x.I,D.i u.I,D.i v.I,D.i w.I],[]);(xe3 C xE9 28 (xcb C.P 28 8) 0 6 [2,3,4,5,6,7,21,22,27] xv7 y82 [a,b,c,d,e,f,g,h,i,j,k,l,m,n,o,p,q,r,s,t,u,v,w] [x]).run =
 T.run (T.need (decide ((0:Int)<=x.I/\x.I<(s.L.length:Int))) (T.ite (D.I (List.getD (List.getD s.L x.I.toNat []) (0+1+1+1) default) == (2:Int)) (T.ite (!j.B) X2 (T.ite (v.I == u.I) X2 X1)) X1)):=by
 intros
 kernel_rfl
theorem t11 (a b c d e f g h i j k l m n o p q:D) :
 let X1:=yes (xan a.L b.I c.I d.I e.I f.I g.L h.B i.I j.I k.I l.I m.L n.L/\xdl a.L o.I p.L q.L);(fnT C ye4 11 s11 [a,b,c,d,e,f,g,h,i,j,k,l,m,n,o,p,q]).run =
 T.run (T.need X1 (T.need X1 (T.leaf [D.i (-1:Int),D.i 0]))):=by
 intros
 kernel_rfl
theorem t25 (a b c d e f g h i j k l m n o:D):(xh2 C xMj 25 s25 [a,b,c,d,e,f,g,h,i,j,k,l,m,n,o]).run =
 T.run (T.need (yes (xan a.L b.I c.I d.I e.I f.I g.L h.B i.I j.I k.I l.I m.L n.L)) (T.ite (decide ((o.L.length:Int) > (200:Int))) T.fail (T.need (yes (xan a.L b.I c.I d.I e.I f.I g.L h.B i.I j.I k.I l.I m.L n.L/\o.L.length<=12/\∀ (k:Nat),k<o.L.length->xh4 a.L o.L k)) (T.need (yes (((↑0:Int)=(0:Int)/\xan a.L b.I c.I d.I e.I f.I g.L h.B i.I j.I k.I l.I m.L n.L/\xat a.L o.L)/\o.L=o.L/\(o.L.length:Int)=(o.L.length:Int)/\(0:Int)=(0:Int))) (T.leaf [D.b true,D.l a.L,D.i b.I,D.i c.I,D.i d.I,D.i e.I,D.i f.I,D.l g.L,D.b h.B,D.i i.I,D.i j.I,D.i k.I,D.i l.I,D.l m.L,D.l n.L,D.l o.L,D.i (↑(Int.toNat (o.L.length:Int)):Int),D.l (xfd o.L.length)]))))):=by kernel_rfl
theorem xXp (a b c d e f g h i j k l m n o p q r s t u v w x y z z26 z27 z28 z29 z30 z31:D) :
 let X1:=List.getD a.L c.I.toNat [];(xb4 C xMj 25 (xaa C.P 25 5) xvx (.i 0::a::b::[c,d,e,f,g,h,i,j,k,l,m,n,o,p,q,r,s,t,u,v,w,x,y,z,z26,z27,z28,z29,z30,z31])).run =
 T.run (T.ite (decide (c.I<b.I)) (T.need (decide ((0:Int)<=c.I/\c.I<(a.L.length:Int))) (T.need (yes (xan d.L e.I f.I g.I h.I i.I j.L k.B l.I m.I n.I o.I p.L q.L/\xdl d.L (D.I (List.getD X1 0 default)) (D.L (List.getD X1 (0+1) default)) (D.L (List.getD X1 (0+1+1) default)))) (T.leaf (Rd.again [D.i 1,D.l a.L,D.i b.I,D.i (IntKind.i64.wrap (c.I+(1:Int))),D.l d.L,D.i e.I,D.i f.I,D.i g.I,D.i h.I,D.i i.I,D.l j.L,D.b k.B,D.i l.I,D.i m.I,D.i n.I,D.i o.I,D.l p.L,D.l q.L,D.l r.L,D.i s.I,D.i t.I,D.i u.I,D.i v.I,D.i w.I,D.l x.L,D.b y.B,D.i z.I,D.i z26.I,D.i z27.I,D.i z28.I,D.l z29.L,D.l z30.L,D.l z31.L,D.i 1,D.l [[D.i (-1:Int)]]])))) (T.leaf (Rd.out (Ex.exit 0) [D.i 0,D.l r.L,D.i s.I,D.i t.I,D.i u.I,D.i v.I,D.i w.I,D.l x.L,D.b y.B,D.i z.I,D.i z26.I,D.i z27.I,D.i z28.I,D.l z29.L,D.l z30.L,D.l z31.L]))):=by
 intros
 kernel_rfl
theorem xXo (a b c d e f g h i j k l m n o p q r s t u v w x y z z26 z27 z28 z29 z30 z31 z32 z33:D) :
 let X1:=List.getD a.L c.I.toNat [];(xb4 C xMj 25 (xaa C.P 25 5) xvx (.i 1::a::b::c::d::[e,f,g,h,i,j,k,l,m,n,o,p,q,r,s,t,u,v,w,x,y,z,z26,z27,z28,z29,z30,z31,z32,z33])).run =
 T.run (T.ite (decide (c.I<b.I)) (T.need (decide ((0:Int)<=c.I/\c.I<(a.L.length:Int))) (T.need (yes (xan d.L e.I f.I g.I h.I i.I j.L k.B l.I m.I n.I o.I p.L q.L/\xdl d.L (D.I (List.getD X1 0 default)) (D.L (List.getD X1 (0+1) default)) (D.L (List.getD X1 (0+1+1) default)))) (T.need (decide (z32.I.toNat<=z33.L.length/\z32.I.toNat+1<=2 ^ 62/\(z32.I.toNat+1)*Tryz.prog.types[3].bytes<=2 ^ 47)) (T.leaf (Rd.again [D.i 1,D.l a.L,D.i b.I,D.i (IntKind.i64.wrap (c.I+(1:Int))),D.l d.L,D.i e.I,D.i f.I,D.i g.I,D.i h.I,D.i i.I,D.l j.L,D.b k.B,D.i l.I,D.i m.I,D.i n.I,D.i o.I,D.l p.L,D.l q.L,D.l r.L,D.i s.I,D.i t.I,D.i u.I,D.i v.I,D.i w.I,D.l x.L,D.b y.B,D.i z.I,D.i z26.I,D.i z27.I,D.i z28.I,D.l z29.L,D.l z30.L,D.l z31.L,D.i (↑(z32.I.toNat+1):Int),D.l (List.take z32.I.toNat z33.L++List.take (List.length [[D.i (-1:Int)]]) [[D.i (-1:Int)]])]))))) (T.leaf (Rd.out (Ex.exit 0) [D.i 1,D.l r.L,D.i s.I,D.i t.I,D.i u.I,D.i v.I,D.i w.I,D.l x.L,D.b y.B,D.i z.I,D.i z26.I,D.i z27.I,D.i z28.I,D.l z29.L,D.l z30.L,D.l z31.L,D.i (z32.I.toNat:Int),D.l z33.L]))):=by
 intros
 kernel_rfl
theorem yfw (a b c d e f g h i j k l m n o p:D) :
 let X1:=List.take o.I.toNat p.L;let X2:=(↑(Int.toNat (p.L.length:Int)):Int);(xh2 C xBv 25 xNg [a,b,c,d,e,f,g,h,i,j,k,l,m,n,o,p]).run =
 T.run (T.need (yes (xan a.L b.I c.I d.I e.I f.I g.L h.B i.I j.I k.I l.I m.L n.L)) (T.ite (decide ((o.I.toNat:Int) > (200:Int))) T.fail (T.need (decide (o.I.toNat<=p.L.length)) (T.need (yes (xan a.L b.I c.I d.I e.I f.I g.L h.B i.I j.I k.I l.I m.L n.L/\List.length X1<=12/\∀ (k:Nat),k<List.length X1->xh4 a.L X1 k)) (T.need (yes (((↑0:Int)=(0:Int)/\xan a.L b.I c.I d.I e.I f.I g.L h.B i.I j.I k.I l.I m.L n.L/\xat a.L p.L)/\(o.I.toNat:Int)=(p.L.length:Int)/\(o.I.toNat:Int)=(p.L.length:Int)/\(o.I.toNat:Int)=(p.L.length:Int)/\(0:Int)=(0:Int))) (T.leaf [D.b true,D.l p.L,D.l a.L,D.i b.I,D.i c.I,D.i d.I,D.i e.I,D.i f.I,D.l g.L,D.b h.B,D.i i.I,D.i j.I,D.i k.I,D.i l.I,D.l m.L,D.l n.L,D.i X2,D.i X2,D.l (xfd p.L.length)])))))):=by
 intros
 kernel_rfl
theorem xQn (a b c d e f g h i j k l m n o p q r s t u v w x y z z26 z27 z28 z29 z30 z31 z32:D) :
 let X1:=List.getD d.L c.I.toNat [];(xal C xBv 25 (xaa C.P 25 5) 1 xof (.i 0::a::b::c::[d,e,f,g,h,i,j,k,l,m,n,o,p,q,r,s,t,u,v,w,x,y,z,z26,z27,z28,z29,z30,z31,z32])).run =
 T.run (T.ite (decide (c.I<b.I)) (T.need (decide ((0:Int)<=c.I/\c.I<(a.I.toNat:Int))) (T.need (decide (c.I.toNat<d.L.length)) (T.need (yes (xan e.L f.I g.I h.I i.I j.I k.L l.B m.I n.I o.I p.I q.L r.L/\xdl e.L (D.I (List.getD X1 0 default)) (D.L (List.getD X1 (0+1) default)) (D.L (List.getD X1 (0+1+1) default)))) (T.leaf (Rd.again [D.i 1,D.i (a.I.toNat:Int),D.i b.I,D.i (IntKind.i64.wrap (c.I+(1:Int))),D.l d.L,D.l e.L,D.i f.I,D.i g.I,D.i h.I,D.i i.I,D.i j.I,D.l k.L,D.b l.B,D.i m.I,D.i n.I,D.i o.I,D.i p.I,D.l q.L,D.l r.L,D.l s.L,D.i t.I,D.i u.I,D.i v.I,D.i w.I,D.i x.I,D.l y.L,D.b z.B,D.i z26.I,D.i z27.I,D.i z28.I,D.i z29.I,D.l z30.L,D.l z31.L,D.i (z32.I.toNat:Int),D.i 1,D.l [[D.i (-1:Int)]]]))))) (T.leaf (Rd.out (Ex.exit 0) [D.i 0,D.l d.L,D.l s.L,D.i t.I,D.i u.I,D.i v.I,D.i w.I,D.i x.I,D.l y.L,D.b z.B,D.i z26.I,D.i z27.I,D.i z28.I,D.i z29.I,D.l z30.L,D.l z31.L,D.i (z32.I.toNat:Int)]))):=by
 intros
 kernel_rfl
theorem xQm (a b c d e f g h i j k l m n o p q r s t u v w x y z z26 z27 z28 z29 z30 z31 z32 z33 z34:D) :
 let X1:=List.getD d.L c.I.toNat [];(xal C xBv 25 (xaa C.P 25 5) 1 xof (.i 1::a::b::c::d::e::[f,g,h,i,j,k,l,m,n,o,p,q,r,s,t,u,v,w,x,y,z,z26,z27,z28,z29,z30,z31,z32,z33,z34])).run =
 T.run (T.ite (decide (c.I<b.I)) (T.need (decide ((0:Int)<=c.I/\c.I<(a.I.toNat:Int))) (T.need (decide (c.I.toNat<d.L.length)) (T.need (yes (xan e.L f.I g.I h.I i.I j.I k.L l.B m.I n.I o.I p.I q.L r.L/\xdl e.L (D.I (List.getD X1 0 default)) (D.L (List.getD X1 (0+1) default)) (D.L (List.getD X1 (0+1+1) default)))) (T.need (decide (z33.I.toNat<=z34.L.length/\z33.I.toNat+1<=2 ^ 62/\(z33.I.toNat+1)*Tryz.prog.types[3].bytes<=2 ^ 47)) (T.leaf (Rd.again [D.i 1,D.i (a.I.toNat:Int),D.i b.I,D.i (IntKind.i64.wrap (c.I+(1:Int))),D.l d.L,D.l e.L,D.i f.I,D.i g.I,D.i h.I,D.i i.I,D.i j.I,D.l k.L,D.b l.B,D.i m.I,D.i n.I,D.i o.I,D.i p.I,D.l q.L,D.l r.L,D.l s.L,D.i t.I,D.i u.I,D.i v.I,D.i w.I,D.i x.I,D.l y.L,D.b z.B,D.i z26.I,D.i z27.I,D.i z28.I,D.i z29.I,D.l z30.L,D.l z31.L,D.i (z32.I.toNat:Int),D.i (↑(z33.I.toNat+1):Int),D.l (List.take z33.I.toNat z34.L++List.take (List.length [[D.i (-1:Int)]]) [[D.i (-1:Int)]])])))))) (T.leaf (Rd.out (Ex.exit 0) [D.i 1,D.l d.L,D.l s.L,D.i t.I,D.i u.I,D.i v.I,D.i w.I,D.i x.I,D.l y.L,D.b z.B,D.i z26.I,D.i z27.I,D.i z28.I,D.i z29.I,D.l z30.L,D.l z31.L,D.i (z32.I.toNat:Int),D.i (z33.I.toNat:Int),D.l z34.L]))):=by
 intros
 kernel_rfl
theorem t10 (a b c d e f g h i j k l m n o p:D):(fnT C ye5 10 s10 [a,b,c,d,e,f,g,h,i,j,k,l,m,n,o,p]).run =
 T.run (T.need (yes (xan a.L b.I c.I d.I e.I f.I g.L h.B i.I j.I k.I l.I m.L n.L/\xat a.L o.L)) (T.ite (!xa0 p.I (0:Int) (IntKind.i64.wrap ((o.L.length:Int) - (1:Int)))) (T.leaf [D.i 0,D.i 2]) (T.need (decide (Int.toNat (o.L.length:Int)<=List.length (xfd o.L.length))) (T.need (yes ((xan a.L b.I c.I d.I e.I f.I g.L h.B i.I j.I k.I l.I m.L n.L/\xat a.L o.L/\xbi o.L (List.take (Int.toNat (o.L.length:Int)) (xfd o.L.length)))/\(0:Int)<=p.I/\p.I<(o.L.length:Int))) (T.leaf [D.i (xhb a.L o.L p.I.toNat*c.I),D.i 0]))))):=by kernel_rfl
set_option maxRecDepth 100000
theorem xCe {p:Prop} [Decidable p] (h:p):((if p then (1:Int) else 0) == 1)=true:=by rw [if_pos h];rfl
theorem xYs {p:Prop} [Decidable p] (h:¬ p):((if p then (1:Int) else 0) == 1)=false:=by rw [if_neg h];rfl
theorem xKp {l:List (List D)} {n:Int} {j:Nat} (hj:j<l.length):xdu l n j (l.length - j)=if xd8 l j=n then [.i (j:Int)]::xdu l n (j+1) (l.length - (j+1)) else xdu l n (j+1) (l.length - (j+1)):=by
 rw [show l.length - j=(l.length - (j+1))+1 by omega];rfl
theorem ybq (q n:Nat):xfy C n 2 82 (xaa C.P 82 1) (some y82) q (xr9 2 xFo (xF9 q)):=by
 refine xsc hC (sp:=xMy) (lp:=xOd q) (sw:=xMo) (Y:=y82) (xna _ _ _) trivial trivial 2 [] (by kernel_rfl) rfl (by kernel_rfl) (fun k hk=>by cases hk) (by kernel_rfl) (fun ds=>((ds.getD 2 default).I - (ds.getD 3 default).I).toNat) fun ds rr h=>?_
 unfold xF9 at h;split at h
 ·rename_i g l' w i l c la ea ml ll ju re mi no pe po pt ex n';obtain ⟨hp,h⟩:=xab h;rw [xad] at hp;obtain ⟨hp,hl',hw,⟨i0,i1⟩,hg⟩:=hp;have hl6:l.L.length<=6:=hp.1.1.2;refine ⟨by rw [xa9];simp;omega,?_⟩;rw [show (xjy C (xjj xMy (xOd q) xMo y82 q) 82 (xaa C.P 82 1) 2 xFo [g,l',w,i,l,c,la,ea,ml,ll,ju,re,mi,no,pe,po,pt,ex,n']).run=_ from ye7 q g l' w i l c la ea ml ll ju re mi no pe po pt ex n'];obtain ⟨j,hj⟩:∃ j:Nat,i.I=j:=⟨i.I.toNat,by omega⟩;have hq:(xE5 q).q=q:=rfl;simp only [hj,hw,hl',Int.toNat_natCast,Nat.reduceAdd,hq] at h i0 i1 ⊢;have hnext:∀ {G':List (List D)},G'.length<=q->((T.ite (decide (q<G'.length+(xdu l.L n'.I (j+1) (l.L.length - (j+1))).length)) (T.leaf (Ex.ret,[D.l (G'++(xdu l.L n'.I (j+1) (l.L.length - (j+1))).take (q+1 - G'.length)),.l l.L,.i c.I,.i la.I,.i ea.I,.i ml.I,.i ll.I,.l ju.L,.b re.B,.i mi.I,.i no.I,.i pe.I,.i po.I,.l pt.L,.l ex.L,.i n'.I]))
      (T.leaf (Ex.exit 0,[D.l (G'++xdu l.L n'.I (j+1) (l.L.length - (j+1))),.l l.L,.i c.I,.i la.I,.i ea.I,.i ml.I,.i ll.I,.l ju.L,.b re.B,.i mi.I,.i no.I,.i pe.I,.i po.I,.l pt.L,.l ex.L,.i n'.I]))).run=some rr)->j<l.L.length->(xF9 q [D.l G',D.l l.L,D.i (l.L.length:Int),D.i ((j+1:Nat):Int),.l l.L,.i c.I,.i la.I,.i ea.I,.i ml.I,.i ll.I,.l ju.L,.b re.B,.i mi.I,.i no.I,.i pe.I,.i po.I,.l pt.L,.l ex.L,.i n'.I]).run=some rr:=fun {G'} hG' h hlt=>by
   refine (xam ⟨hp,rfl,by simp only [I_i,L_l],⟨by simp only [I_i];omega,by simp only [I_i,L_l];omega⟩,hG'⟩).trans ?_;simp only [I_i,L_l,Int.toNat_natCast];exact h
  have hmu:j<l.L.length->((l.L.length:Int) - ((j+1:Nat):Int)).toNat<(w.I - i.I).toNat:=fun _=>by rw [hj,hw];omega
  refine xa2 (fun hlt=>?_) fun hge=>?_
  ·have hlt:j<l.L.length:=by omega
   rw [xKp hlt] at h;rw [xbd (by omega)];refine xac (by omega) (xcm (fun c1=>?_) fun c1=>?_)
   ·have c1:xd8 l.L j=n'.I:=eq_of_beq c1;rw [if_pos c1] at h;simp only [List.length_cons] at h;refine xcm (fun c2=>?_) fun c2=>?_
    ·rw [Bool.not_not] at c2;have c2:g.L.length=q:=by simpa using c2
     rw [xa5,if_pos (by simp;omega)] at h;rw [show q+1 - g.L.length=1 by omega] at h;exact xao h
    ·rw [Bool.not_not] at c2;have c2:g.L.length≠q:=by
      have:¬ (g.L.length == q)=true:=by rw [show (g.L.length == q)=false from c2];simp
      simpa using this
     refine xaj (hnext (by simp;omega) ?_ hlt) (hmu hlt);simp only [List.length_append,List.length_cons,List.length_nil,List.append_nil,List.append_assoc,List.cons_append,List.nil_append];rw [show q+1 - g.L.length=(q+1 - (g.L.length+(0+1)))+1 by omega,List.take_succ_cons] at h;rw [show g.L.length+(0+1)+(xdu l.L n'.I (j+1) (l.L.length - (j+1))).length=g.L.length+((xdu l.L n'.I (j+1) (l.L.length - (j+1))).length+1) by omega];exact h
   ·have c1:¬ xd8 l.L j=n'.I:=by
     intro e;have:(xd8 l.L j == n'.I)=false:=c1;rw [e] at this;simp at this
    rw [if_neg c1] at h;exact xaj (hnext hg h hlt) (hmu hlt)
  ·rw [show l.L.length - j=0 by omega] at h;simp only [xdu,List.length_nil,List.append_nil] at h;rw [xa5] at h;split at h
   ·rename_i hc;have:=of_decide_eq_true hc;omega
   ·exact xao h
 ·cases h
theorem ygt (n:Nat):xrq C (n+1) 82 y82 (xx8 s82 G82):=by
 refine xLq hC (sp:=xMy) (lp:=xOd) (sw:=xMo) (Y:=y82) (xna _ _ _) trivial trivial (by kernel_rfl) [1] (by kernel_rfl) (by kernel_rfl) (by kernel_rfl) (fun q k hk L hL=>by
  simp at hk;subst hk;cases hL;exact ybq q n) fun ds L h q=>?_
 unfold G82 at h;split at h
 ·rename_i l c la ea ml ll ju re mi no pe po pt ex n';obtain ⟨hp,h⟩:=xab h;rw [xad] at hp;cases h;refine (t82 q l c la ea ml ll ju re mi no pe po pt ex n').trans (xai ⟨hp,rfl,rfl,⟨by omega,by omega⟩,by simp⟩ (xdk (fun c=>?_) fun c=>?_))
  ·simp only [List.nil_append,List.length_nil,Nat.sub_zero,xd7];rfl
  ·have c:¬ q<(xdu l.L n'.I 0 l.L.length).length:=fun h=>c (by simpa using h)
   simp only [List.nil_append,xd7];rw [List.take_of_length_le (by omega)];rfl
 ·cases h
theorem ydw:∀ (k i:Nat) (x y l c la ea ml ll ju re mi no pe po pt ex cl s m r z n u:D),i+k=l.L.length->(xan l.L c.I la.I ea.I ml.I ll.I ju.L re.B mi.I no.I pe.I po.I pt.L ex.L/\xdl l.L cl.I s.L m.L)->u.I=(if i=l.L.length then xGv l.L s.L m.L n.I else 0) ->
    FoldR (fun ds el=>(xe3 C xE9 28 (xcb C.P 28 8) 0 6 [2,3,4,5,6,7,21,22,27] xv7 y82 ds el).run) y82.give (fun a b=>xck xv7 a=xck xv7 b) [x,y,l,c,la,ea,ml,ll,ju,re,mi,no,pe,po,pt,ex,cl,s,m,r,z,n,u] (xdu l.L n.I i k) .normal [.i x.I,.i y.I,.l l.L,.i c.I,.i la.I,.i ea.I,.i ml.I,.i ll.I,.l ju.L,.b re.B,.i mi.I,.i no.I,.i pe.I,.i po.I,.l pt.L,.l ex.L,.i cl.I,.l s.L,.l m.L,.i r.I,.i z.I,.i n.I,.i (xGv l.L s.L m.L n.I)]:=by
 intro k;induction k with
 | zero=>
   intro i x y l c la ea ml ll ju re mi no pe po pt ex cl s m r z n u hi hp hu;rw [if_pos (by omega)] at hu;refine .nil ?_;rw [<- hu];rfl
 | succ k ih=>
   intro i x y l c la ea ml ll ju re mi no pe po pt ex cl s m r z n u hi hp hu;rw [if_neg (by omega)] at hu;have hi1:i<l.L.length:=by omega
   have hml:=hp.2.2.2.1;have hby:=xJb hp.2 hi1;have key:(if xd8 l.L i=n.I then byI l.L s.L m.L i else 0)=(if i+1=l.L.length then xGv l.L s.L m.L n.I else 0):=by
    unfold byI xGv;by_cases e:i+1=l.L.length
    ·rw [if_pos e,if_pos e,show l.L.length - 1=i by omega]
    ·rw [if_neg e,if_neg e];split <;> rfl
   simp only [xdu];split
   ·rename_i c1;rw [if_pos c1] at key;have hround:=xZq x y l c la ea ml ll ju re mi no pe po pt ex cl s m r z n u (.i (i:Int));refine .again (x':=[]) (ds':=[.i x.I,.i y.I,.l l.L,.i c.I,.i la.I,.i ea.I,.i ml.I,.i ll.I,.l ju.L,.b re.B,.i mi.I,.i no.I,.i pe.I,.i po.I,.l pt.L,.l ex.L,.i cl.I,.l s.L,.l m.L,.i r.I,.i z.I,.i n.I,.i (byI l.L s.L m.L i)]) (hround.trans ?_) (fun h=>by cases h) (ih (i+1) (.i x.I) (.i y.I) (.l l.L) (.i c.I) (.i la.I) (.i ea.I) (.i ml.I) (.i ll.I) (.l ju.L) (.b re.B) (.i mi.I) (.i no.I) (.i pe.I) (.i po.I) (.l pt.L) (.l ex.L) (.i cl.I) (.l s.L) (.l m.L) (.i r.I) (.i z.I) (.i n.I) (.i (byI l.L s.L m.L i)) (by simp only [L_l];omega) hp key);obtain ⟨-,-,-,m4,m5⟩:=hp.2.2.2.2.1 i (by omega);have m5:((m.L.getD i []).getD 3 default).I=0:=m5;obtain ⟨q1,q2⟩:=hp.1.2.2.1;have w1:IntKind.wrap .i64 (u.I+byI l.L s.L m.L i)=byI l.L s.L m.L i:=by rw [hu,Int.zero_add];exact xas (by omega) (by omega)
    simp only [I_i,Int.toNat_natCast,Nat.reduceAdd,m5,w1];refine xau (by omega) (xaq rfl (xai ⟨hp.1,hp.2,by omega,by omega⟩ ?_));by_cases h0:0<byI l.L s.L m.L i
    ·exact xcx (xCe h0) (xkj (by omega) (xkj (by omega) rfl))
    ·refine xaq (xYs h0) ?_;rw [hu,show byI l.L s.L m.L i=0 by omega];rfl
   ·rename_i c1;rw [if_neg c1] at key;exact ih (i+1) x y l c la ea ml ll ju re mi no pe po pt ex cl s m r z n u (by omega) hp (by rw [hu];exact key)
theorem ycc (n:Nat):xh7 C (n+2) 0 28 (xcb C.P 28 8).code none 0 (xov 0 [2,3,4,5,6,7,21,22,27] (xcb C.P 28 8).1 xIk xv7 xPz):=
 xHj hC (sp:=xG2) (lp:=xH1) (sw:=xGq) (rg:=xHh) (Y:=y82) (xna _ _ _) ⟨xNw n,trivial⟩ ⟨xT8 (n+1),trivial⟩ 8 0 6 [] (by kernel_rfl) rfl (by kernel_rfl) (by exact ⟨by kernel_rfl,by kernel_rfl⟩) (fun k hk=>by cases hk)
  (by kernel_rfl) (by kernel_rfl) (it:=xIk) ⟨ygt (n+1),trivial⟩ fun L ds rr h=>by
   unfold xPz at h;split at h
   ·rename_i x y l c la ea ml ll ju re mi no pe po pt ex cl s m r z n u;obtain ⟨hp,h⟩:=xab h;rw [xad] at hp;obtain ⟨hp,hc,hL,hu⟩:=hp;cases h;rw [hL];exact ydw l.L.length 0 x y l c la ea ml ll ju re mi no pe po pt ex cl s m r z n u (by omega) ⟨hp,hc⟩ (by rw [hu];rw [if_neg (by have:=hp.1.1.1;omega)])
   ·cases h
theorem ycd (n:Nat):xct C (n+2) 28 (xaa C.P 28 3) (mkL xFz xP0):=by
 refine xUs hC (sp:=xG2) (lp:=xH1) (sw:=xGq) (rg:=xHh) ⟨xNw n,trivial⟩ ⟨xT8 (n+1),trivial⟩ 0 [] [8] (by kernel_rfl) rfl (by kernel_rfl) (by kernel_rfl) (fun k hk=>by cases hk)
  (fun k hk L hL=>by simp at hk;subst hk;cases hL;exact ycc n) (by kernel_rfl) (fun ds=>((ds.getD 0 default).I - (ds.getD 1 default).I).toNat) fun ds rr h=>?_
 unfold xP0 at h;split at h
 ·rename_i x y l c la ea ml ll ju re mi no pe po pt ex cl s m r z;obtain ⟨hp,h⟩:=xab h;rw [xad] at hp;obtain ⟨hp,hc,hz,hx,hy0,hy1⟩:=hp;obtain ⟨-,-,-,-,-,g5,-⟩:=hp.1.2 (l.L.length - 1) (by have:=hp.1.1.1;omega);refine ⟨by rw [xa9];simp;omega,?_⟩;rw [show (xal C (xly xG2 xH1 xGq xHh) 28 (xaa C.P 28 3) 0 xFz [x,y,l,c,la,ea,ml,ll,ju,re,mi,no,pe,po,pt,ex,cl,s,m,r,z]).run=_ from yfk x y l c la ea ml ll ju re mi no pe po pt ex cl s m r z];refine xa2 (fun hlt=>?_) fun hge=>xao h
  refine xbe hp (xbe ⟨hp,hc,rfl,rfl⟩ ?_);rw [xas (by omega) (by omega)];exact xaj ((xam ⟨hp,hc,hz,hx,by simp only [I_i];omega,by simp only [I_i];omega⟩).trans h) (show (x.I - (y.I+1)).toNat<(x.I - y.I).toNat by omega)
 ·cases h
theorem xHs (n:Nat):xbo C (n+3) 28 (mkF s28 G28):=by
 refine xR8 hC (sp:=xG2) (lp:=xH1) (sw:=xGq) (rg:=xHh) ⟨xNw n,trivial⟩ ⟨xT8 (n+1),trivial⟩ (by kernel_rfl) [3] [] (by kernel_rfl) (by kernel_rfl) (by kernel_rfl) rfl (fun k hk L hL=>by simp at hk;subst hk;cases hL;exact ycd n) (fun k hk=>by cases hk) fun ds rr h=>?_
 unfold G28 at h;split at h
 ·rename_i l c la ea ml ll ju re mi no pe po pt ex cl s m;obtain ⟨hp,h⟩:=xab h;rw [xad] at hp;obtain ⟨hp,hc⟩:=hp;obtain ⟨⟨l1,l2⟩,hl⟩:=hp.1;refine (t28 l c la ea ml ll ju re mi no pe po pt ex cl s m).trans ?_;rw [<- h];obtain ⟨-,-,-,-,g4,g5,-⟩:=hl (l.L.length - 1) (by omega);have w:IntKind.wrap .i64 ((l.L.length:Int) - 1)=((l.L.length - 1:Nat):Int):=by rw [xas (by omega) (by omega)];omega
  have g:((l.L.getD (l.L.length - 1) []).getD 1 default).I=xd8 l.L (l.L.length - 1):=rfl;have w2:IntKind.wrap .i64 (xd8 l.L (l.L.length - 1)+1)=xd8 l.L (l.L.length - 1)+1:=xas (by omega) (by omega);simp only [w,Int.toNat_natCast,g,w2];exact xau (by omega) (xai ⟨hp,hc,by trivial,by trivial,by omega,by omega⟩ rfl)
 ·cases h
theorem yg2 (n:Nat):xbo C (n+8) 11 (mkF s11 G11):=by
 refine xbk hC (sp:=ybg) (lp:=ydq) (sw:=yal) ⟨ycf n,xHs (n+4),trivial⟩ trivial (by kernel_rfl) [] (by kernel_rfl) rfl (fun k hk=>by cases hk) fun ds rr h=>?_
 unfold G11 at h;split at h
 ·rename_i l c la ea ml ll ju re mi no pe po pt ex cl s m;obtain ⟨hp,h⟩:=xab h;rw [xad] at hp;refine (t11 l c la ea ml ll ju re mi no pe po pt ex cl s m).trans ?_;rw [<- h];exact xai hp (xai hp rfl)
 ·cases h
set_option maxRecDepth 100000
theorem xjg (n:Nat):(xfd n).length=n:=List.length_replicate ..
theorem xD1 (n:Nat):xfd (n+1)=xfd n++[[.i (-1)]]:=List.replicate_succ' ..
theorem xua (n:Nat):(xfd n).take n=xfd n:=List.take_of_length_le (by rw [xjg];omega)
theorem xub (cs:List (List D)):xbi cs (xfd cs.length):=⟨xjg _,fun k hk=>by
 rw [xjg] at hk;unfold xfd;rw [List.getD_eq_getElem?_getD,List.getElem?_replicate,if_pos hk];rfl⟩
theorem xro:Tryz.prog.types[3].bytes=8:=by kernel_rfl
theorem yci (n:Nat):xct C (n+10) 25 (xaa C.P 25 5) (mkL xvx xP2):=by
 refine xbb hC (sp:=xG3) (lp:=xH2) (sw:=xGr) ⟨ok9 (n+4),xNx n,xHs (n+7),xx1 (n+2),trivial⟩ trivial 0 [] (by kernel_rfl) rfl (fun k hk=>by cases hk) (by kernel_rfl) (fun ds=>((ds.getD 2 default).I - (ds.getD 3 default).I).toNat) fun ds rr h=>?_
 unfold xP2 at h;split at h
 ·rename_i z0 cs' x i l c la ea ml ll ju re mi no pe po pt ex l' c' la' ea' ml' ll' ju' re' mi' no' pe' po' pt' ex' cs;obtain ⟨hp,h⟩:=xab h;rw [xad] at hp;obtain ⟨⟨hh,hp,hc⟩,hcs,hx,hi⟩:=hp;obtain ⟨c1,c2⟩:=hc.1;refine ⟨by rw [xa9];show (x.I - i.I).toNat<_;omega,?_⟩;rw [xar (j:=z0) (n:=0) hh (by decide),show (xal C (xah xG3 xH2 xGr) 25 (xaa C.P 25 5) 0 xvx [.i 0,cs',x,i,l,c,la,ea,ml,ll,ju,re,mi,no,pe,po,pt,ex,l',c',la',ea',ml',ll',ju',re',mi',no',pe',po',pt',ex',cs]).run=_ from xXp cs' x i l c la ea ml ll ju re mi no pe po pt ex l' c' la' ea' ml' ll' ju' re' mi' no' pe' po' pt' ex' cs];simp only [hcs,hx,hi,Int.toNat_zero,Nat.reduceAdd];refine xgl (by omega) (xac (by omega) (xbe ⟨hp,hc.2 0 (by omega)⟩ ?_));rw [show IntKind.wrap .i64 (0+1)=1 from rfl];exact xaj ((xam ⟨⟨rfl,hp,hc⟩,rfl,rfl,⟨by simp only [I_i];omega,by simp only [I_i,L_l];omega⟩,rfl,rfl⟩).trans h) (show ((cs.L.length:Int) - 1).toNat<(x.I - i.I).toNat by omega)
 ·rename_i z0 cs' x i l c la ea ml ll ju re mi no pe po pt ex l' c' la' ea' ml' ll' ju' re' mi' no' pe' po' pt' ex' cs n ou;obtain ⟨hp,h⟩:=xab h;rw [xad] at hp;obtain ⟨⟨hh,hp,hc⟩,hcs,hx,⟨i0,i1⟩,hn,ho⟩:=hp;obtain ⟨c1,c2⟩:=hc.1;refine ⟨by rw [xa9];show (x.I - i.I).toNat<_;omega,?_⟩;rw [xar (j:=z0) (n:=1) hh (by decide),show (xal C (xah xG3 xH2 xGr) 25 (xaa C.P 25 5) 0 xvx [.i 1,cs',x,i,l,c,la,ea,ml,ll,ju,re,mi,no,pe,po,pt,ex,l',c',la',ea',ml',ll',ju',re',mi',no',pe',po',pt',ex',cs,n,ou]).run=_ from xXo cs' x i l c la ea ml ll ju re mi no pe po pt ex l' c' la' ea' ml' ll' ju' re' mi' no' pe' po' pt' ex' cs n ou];obtain ⟨q,hq⟩:∃ q:Nat,i.I=q:=⟨i.I.toNat,by omega⟩;rw [hq,Int.toNat_natCast] at ho;simp only [hcs,hx,hn,hq,ho,Int.toNat_natCast,Nat.reduceAdd,xro,xua,List.take_length] at i0 i1 ⊢;refine xa2 (fun hlt=>?_) fun hge=>xao ?_
  ·refine xac (by omega) (xbe ⟨hp,hc.2 q (by omega)⟩ (xac (by rw [xjg];omega) ?_));rw [xbd (by omega),<- xD1];exact xaj ((xam ⟨⟨rfl,hp,hc⟩,rfl,rfl,⟨by simp only [I_i];omega,by simp only [I_i,L_l];omega⟩,rfl,by simp only [I_i,L_l,Int.toNat_natCast]⟩).trans h) (show ((cs.L.length:Int) - ((q+1:Nat):Int)).toNat<(x.I - i.I).toNat by omega)
  ·have e:q=cs.L.length:=by omega
   rw [<- h,e];rfl
 ·cases h
theorem xUh (n:Nat):xeu C (n+11) 25 (xdm s25 G25):=by
 refine xfi hC (sp:=xG3) (lp:=xH2) (sw:=xGr) ⟨ok9 (n+4),xNx n,xHs (n+7),xx1 (n+2),trivial⟩ trivial (by kernel_rfl) [5] (by kernel_rfl) (by kernel_rfl) (fun k hk L hL=>by simp at hk;subst hk;cases hL;exact yci n) fun ds rr h=>?_
 unfold G25 at h;split at h
 ·rename_i l c la ea ml ll ju re mi no pe po pt ex cs;obtain ⟨hp,h⟩:=xab h;rw [xad] at hp;obtain ⟨hp,hc⟩:=hp;obtain ⟨c1,c2⟩:=hc.1;refine (t25 l c la ea ml ll ju re mi no pe po pt ex cs).trans ?_;rw [<- h];exact xai hp (xkj (by omega) (xai ⟨hp,c2,hc.2⟩ (xai ⟨⟨rfl,hp,hc⟩,by trivial,by trivial,by trivial⟩ rfl)))
 ·cases h
theorem xUn (n:Nat):xb0 C (n+10) 1 25 (xaa C.P 25 5) (xde 1 xof xC6):=by
 refine xbb hC (sp:=xtw) (lp:=xuh) (sw:=xtr) ⟨ok9 (n+4),xNx n,xHs (n+7),xx1 (n+2),trivial⟩ trivial 1 [] (by kernel_rfl) rfl (fun k hk=>by cases hk) (by kernel_rfl) (fun ds=>((ds.getD 2 default).I - (ds.getD 3 default).I).toNat) fun ds rr h=>?_
 unfold xC6 at h;split at h
 ·rename_i z0 v x i cs l c la ea ml ll ju re mi no pe po pt ex l' c' la' ea' ml' ll' ju' re' mi' no' pe' po' pt' ex' w;obtain ⟨hp,h⟩:=xab h;rw [xad] at hp;obtain ⟨⟨hh,hp,hc⟩,hv,hw,hx,hi⟩:=hp;obtain ⟨c1,c2⟩:=hc.1;refine ⟨by rw [xa9];show (x.I - i.I).toNat<_;omega,?_⟩;rw [xar (j:=z0) (n:=0) hh (by decide),show (xal C (xah xtw xuh xtr) 25 (xaa C.P 25 5) 1 xof [.i 0,v,x,i,cs,l,c,la,ea,ml,ll,ju,re,mi,no,pe,po,pt,ex,l',c',la',ea',ml',ll',ju',re',mi',no',pe',po',pt',ex',w]).run=_ from xQn v x i cs l c la ea ml ll ju re mi no pe po pt ex l' c' la' ea' ml' ll' ju' re' mi' no' pe' po' pt' ex' w];simp only [hv,hw,hx,hi,Int.toNat_zero,Nat.reduceAdd];refine xgl (by omega) (xac (by omega) (xac (by omega) (xbe ⟨hp,hc.2 0 (by omega)⟩ ?_)));rw [show IntKind.wrap .i64 (0+1)=1 from rfl];exact xaj ((xam ⟨⟨rfl,hp,hc⟩,rfl,rfl,rfl,⟨by simp only [I_i];omega,by simp only [I_i,L_l];omega⟩,rfl,rfl⟩).trans h) (show ((cs.L.length:Int) - 1).toNat<(x.I - i.I).toNat by omega)
 ·rename_i z0 v x i cs l c la ea ml ll ju re mi no pe po pt ex l' c' la' ea' ml' ll' ju' re' mi' no' pe' po' pt' ex' w n ou;obtain ⟨hp,h⟩:=xab h;rw [xad] at hp;obtain ⟨⟨hh,hp,hc⟩,hv,hw,hx,⟨i0,i1⟩,hn,ho⟩:=hp;obtain ⟨c1,c2⟩:=hc.1;refine ⟨by rw [xa9];show (x.I - i.I).toNat<_;omega,?_⟩;rw [xar (j:=z0) (n:=1) hh (by decide),show (xal C (xah xtw xuh xtr) 25 (xaa C.P 25 5) 1 xof [.i 1,v,x,i,cs,l,c,la,ea,ml,ll,ju,re,mi,no,pe,po,pt,ex,l',c',la',ea',ml',ll',ju',re',mi',no',pe',po',pt',ex',w,n,ou]).run=_ from xQm v x i cs l c la ea ml ll ju re mi no pe po pt ex l' c' la' ea' ml' ll' ju' re' mi' no' pe' po' pt' ex' w n ou];obtain ⟨q,hq⟩:∃ q:Nat,i.I=q:=⟨i.I.toNat,by omega⟩;rw [hq,Int.toNat_natCast] at ho;simp only [hv,hw,hx,hn,hq,ho,Int.toNat_natCast,Nat.reduceAdd,xro,xua,List.take_length] at i0 i1 ⊢;refine xa2 (fun hlt=>?_) fun hge=>xao ?_
  ·refine xac (by omega) (xac (by omega) (xbe ⟨hp,hc.2 q (by omega)⟩ (xac (by rw [xjg];omega) ?_)));rw [xbd (by omega),<- xD1];exact xaj ((xam ⟨⟨rfl,hp,hc⟩,rfl,rfl,rfl,⟨by simp only [I_i];omega,by simp only [I_i,L_l];omega⟩,rfl,by simp only [I_i,L_l,Int.toNat_natCast]⟩).trans h) (show ((cs.L.length:Int) - ((q+1:Nat):Int)).toNat<(x.I - i.I).toNat by omega)
  ·have e:q=cs.L.length:=by omega
   rw [<- h,e];rfl
 ·cases h
theorem xq2 (n:Nat):xeu C (n+11) 25 (xdm xNg xQf):=by
 refine xfi hC (sp:=xtw) (lp:=xuh) (sw:=xtr) ⟨ok9 (n+4),xNx n,xHs (n+7),xx1 (n+2),trivial⟩ trivial (by kernel_rfl) [5] (by kernel_rfl) (by kernel_rfl) (fun k hk L hL=>by simp at hk;subst hk;cases hL;exact xUn n) fun ds rr h=>?_
 unfold xQf at h;split at h
 ·rename_i l c la ea ml ll ju re mi no pe po pt ex w cs;obtain ⟨hp,h⟩:=xab h;rw [xad] at hp;obtain ⟨hp,hc,hw⟩:=hp;obtain ⟨c1,c2⟩:=hc.1;refine (yfw l c la ea ml ll ju re mi no pe po pt ex w cs).trans ?_;rw [<- h];simp only [hw,Int.toNat_natCast,List.take_length];exact xai hp (xkj (by omega) (xau (by omega) (xai ⟨hp,c2,hc.2⟩ (xai ⟨⟨by trivial,hp,hc⟩,by trivial,by trivial,by trivial,by trivial⟩ rfl))))
 ·cases h
theorem yg3 (n:Nat):xbo C (n+12) 10 (mkF s10 G10):=by
 refine xbk hC (sp:=ybh) (lp:=ydr) (sw:=yam) ⟨xoz (n+10),ych (n+7),trivial⟩ ⟨xUh n,trivial⟩ (by kernel_rfl) [] (by kernel_rfl) rfl (fun k hk=>by cases hk) fun ds rr h=>?_
 unfold G10 at h;split at h
 ·rename_i l c la ea ml ll ju re mi no pe po pt ex cs k;obtain ⟨hp,h⟩:=xab h;rw [xad] at hp;obtain ⟨hp,hc,k0,k1⟩:=hp;obtain ⟨c1,c2⟩:=hc.1;refine (t10 l c la ea ml ll ju re mi no pe po pt ex cs k).trans ?_;rw [<- h];have w:IntKind.wrap .i64 ((cs.L.length:Int) - 1)=(cs.L.length:Int) - 1:=xas (by omega) (by omega);simp only [w,Int.toNat_natCast,xua];exact xai ⟨hp,hc⟩ (xaq (xkm (by omega)) (xau (by rw [xjg];omega) (xai ⟨⟨hp,hc,xub _⟩,k0,k1⟩ rfl)))
 ·cases h
set_option linter.unusedVariables false
set_option maxRecDepth 100000
theorem t30 (a b c d e f g h i j k l m n o p q r s:D) :
 let X1:=T.need (yes ((xan a.L b.I c.I d.I e.I f.I g.L h.B i.I j.I k.I l.I m.L n.L/\xat a.L o.L/\xbi o.L p.L)/\(0:Int)<=r.I/\r.I<(o.L.length:Int)/\(0:Int)<=s.I/\s.I<(a.L.length:Int))) (T.ite (decide (byK a.L o.L r.I.toNat s.I.toNat*c.I > (0:Int))) (T.leaf [D.i (byK a.L o.L r.I.toNat s.I.toNat*c.I),D.b (((if (0:Int)<byK a.L o.L r.I.toNat s.I.toNat then (1:Int) else (0:Int)) == (1:Int)) == (q.I == (4:Int)))]) (T.leaf [D.i (byK a.L o.L r.I.toNat s.I.toNat*c.I),D.b false]));let X2:=List.getD (D.L (List.getD (List.getD o.L r.I.toNat []) (0+1+1) default)) s.I.toNat [];let X3:=T.ite (q.I == (6:Int)) (T.ite (!D.B (List.getD X2 (0+1+1) default)) (T.leaf [D.i 0,D.b false]) T.fail) (T.leaf [D.i 0,D.b false]);let X4:=(yes (xan a.L b.I c.I d.I e.I f.I g.L h.B i.I j.I k.I l.I m.L n.L/\(0:Int)<=s.I/\s.I<(a.L.length:Int)));(fnT C yey 30 s30 [a,b,c,d,e,f,g,h,i,j,k,l,m,n,o,p,q,r,s]).run =
 T.run (T.ite (q.I == (7:Int)) (T.need (yes ((xan a.L b.I c.I d.I e.I f.I g.L h.B i.I j.I k.I l.I m.L n.L/\xat a.L o.L/\xbi o.L p.L)/\(0:Int)<=r.I/\r.I<(o.L.length:Int))) (T.leaf [D.i (xhb a.L o.L r.I.toNat*c.I),D.b (s.I == (0:Int))])) (T.need (yes (xbi o.L p.L/\(0:Int)<=r.I/\r.I<(o.L.length:Int))) (T.need (decide ((0:Int)<=r.I/\r.I<(o.L.length:Int))) (T.need (decide ((0:Int)<=s.I/\s.I<(↑(List.length (D.L (List.getD (List.getD o.L r.I.toNat []) (0+1+1) default))):Int))) (T.ite (q.I == (1:Int)) (T.need X4 (T.leaf [D.i (D.I (List.getD X2 (0+1) default)),D.b false])) (T.ite (q.I == (2:Int)) (T.ite (D.I (List.getD X2 (0+1+1+1) default) != (1:Int)) (T.leaf [D.i 0,D.b false]) T.fail) (T.ite (q.I == (3:Int)) (T.need X4 (T.leaf [D.i 0,D.b false])) (T.ite (q.I == (4:Int)) (T.ite (q.I == (4:Int)) X1 X3) (T.ite (q.I == (5:Int)) X1 X3))))))))):=by
 intros
 kernel_rfl
theorem t67 (a b c d e f g h i j k l m n o p q r s:D):(fnT C yeg 67 s67 [a,b,c,d,e,f,g,h,i,j,k,l,m,n,o,p,q,r,s]).run =
 T.run (T.need (yes ((xan a.L b.I c.I d.I e.I f.I g.L h.B i.I j.I k.I l.I m.L n.L/\xat a.L o.L/\xbi o.L p.L)/\((1:Int)<=q.I/\q.I<=(7:Int))/\((0:Int)<=r.I/\r.I<(o.L.length:Int))/\(0:Int)<=s.I/\s.I<(a.L.length:Int))) (T.leaf [D.b (xc7 a.L o.L c.I q.I r.I.toNat s.I.toNat)])):=by kernel_rfl
theorem t31 (a b c d e f g h i j k l m n o p q r s:D):(fnT C xy3 31 s31 [a,b,c,d,e,f,g,h,i,j,k,l,m,n,o,p,q,r,s]).run =
 T.run (T.ite (q.I == (3:Int)) T.fail (T.ite (q.I == (2:Int)) T.fail (T.ite (q.I == (6:Int)) T.fail (T.ite (q.I == (7:Int)) (T.need (yes (((↑0:Int)=(0:Int)/\xan a.L b.I c.I d.I e.I f.I g.L h.B i.I j.I k.I l.I m.L n.L/\xat a.L o.L/\xbi o.L p.L)/\q.I=(7:Int)/\((0:Int)<=r.I/\r.I<(o.L.length:Int))/\(a.L.length:Int)=(a.L.length:Int)/\((0:Int)<=(0:Int)/\(0:Int)<=(a.L.length:Int))/\((0:Int)=(a.L.length:Int)->¬(0:Int)<xbc a.L o.L c.I r.I.toNat))) (T.ite (decide ((0:Int)<xbc a.L o.L c.I r.I.toNat)) (T.leaf [D.i 1,D.i 1,D.l [[D.i 4,D.i r.I,D.i (↑(a.L.length - 1):Int)]]]) (T.leaf [D.i 0]))) (T.leaf [D.i 0]))))):=by kernel_rfl
theorem xTe (a b c d e f g h i j k l m n o p q r s t u:D):(xb4 C xy3 31 (xaa C.P 31 20) xra [.i 0,a,b,c,d,e,f,g,h,i,j,k,l,m,n,o,p,q,r,s,t,u]).run =
 T.run (T.ite (decide (r.I<q.I)) (T.need (yes (((↑0:Int)=(0:Int)/\xan a.L b.I c.I d.I e.I f.I g.L h.B i.I j.I k.I l.I m.L n.L/\xat a.L o.L/\xbi o.L p.L)/\s.I=(7:Int)/\((0:Int)<=t.I/\t.I<(o.L.length:Int))/\q.I=(a.L.length:Int)/\r.I=r.I/\((0:Int)<=r.I/\r.I<(a.L.length:Int))/\(1:Int)<=(1:Int)/\(1:Int)<=(7:Int))) (T.ite (decide ((r.I=(↑(a.L.length - 1):Int)/\(1:Int)<=(4:Int))/\(0:Int)<xbc a.L o.L c.I t.I.toNat)) (T.leaf (Rd.again [D.i 1,D.l a.L,D.i b.I,D.i c.I,D.i d.I,D.i e.I,D.i f.I,D.l g.L,D.b h.B,D.i i.I,D.i j.I,D.i k.I,D.i l.I,D.l m.L,D.l n.L,D.l o.L,D.l p.L,D.i 1,D.i q.I,D.i (IntKind.i64.wrap (r.I+(1:Int))),D.i s.I,D.i t.I,D.i u.I,D.l [[D.i 4,D.i t.I,D.i (↑(a.L.length - 1):Int)]]])) (T.leaf (Rd.again [D.i 0,D.l a.L,D.i b.I,D.i c.I,D.i d.I,D.i e.I,D.i f.I,D.l g.L,D.b h.B,D.i i.I,D.i j.I,D.i k.I,D.i l.I,D.l m.L,D.l n.L,D.l o.L,D.l p.L,D.i q.I,D.i (IntKind.i64.wrap (r.I+(1:Int))),D.i s.I,D.i t.I,D.i u.I])))) (T.leaf (Rd.out (Ex.exit 9) [D.i 0]))):=by kernel_rfl
theorem xTd (a b c d e f g h i j k l m n o p q r s t u v w:D):(xb4 C xy3 31 (xaa C.P 31 20) xra [.i 1,a,b,c,d,e,f,g,h,i,j,k,l,m,n,o,p,q,r,s,t,u,v,w]).run =
 T.run (T.ite (decide (s.I<r.I)) (T.need (yes (((↑(0+1):Int)=(1:Int)/\xan a.L b.I c.I d.I e.I f.I g.L h.B i.I j.I k.I l.I m.L n.L/\xat a.L o.L/\xbi o.L p.L)/\t.I=(7:Int)/\((0:Int)<=u.I/\u.I<(o.L.length:Int))/\r.I=(a.L.length:Int)/\s.I=s.I/\((0:Int)<=s.I/\s.I<(a.L.length:Int))/\((5:Int)<=(1:Int)/\(1:Int)<=(7:Int))/\(q.I.toNat:Int)=(1:Int))) (T.leaf (Rd.again [D.i 1,D.l a.L,D.i b.I,D.i c.I,D.i d.I,D.i e.I,D.i f.I,D.l g.L,D.b h.B,D.i i.I,D.i j.I,D.i k.I,D.i l.I,D.l m.L,D.l n.L,D.l o.L,D.l p.L,D.i 1,D.i r.I,D.i (IntKind.i64.wrap (s.I+(1:Int))),D.i t.I,D.i u.I,D.i v.I,D.l w.L]))) (T.leaf (Rd.out (Ex.exit 9) [D.i 1,D.i (q.I.toNat:Int),D.l w.L]))):=by kernel_rfl
theorem xTc (a b c d e f g h i j k l m n o p q r s t u v w:D):(xb4 C xy3 31 (xaa C.P 31 23) xq9 [.i 0,a,b,c,d,e,f,g,h,i,j,k,l,m,n,o,p,q,r,s,t,u,v,w]).run =
 T.run (T.ite (decide (r.I<=(6:Int))) (T.need (yes ((xan a.L b.I c.I d.I e.I f.I g.L h.B i.I j.I k.I l.I m.L n.L/\xat a.L o.L/\xbi o.L p.L)/\((1:Int)<=r.I/\r.I<=(7:Int))/\((0:Int)<=v.I/\v.I<(o.L.length:Int))/\(0:Int)<=q.I/\q.I<(a.L.length:Int))) (T.ite (xc7 a.L o.L c.I r.I v.I.toNat q.I.toNat) (T.leaf (Rd.again [D.i 1,D.l a.L,D.i b.I,D.i c.I,D.i d.I,D.i e.I,D.i f.I,D.l g.L,D.b h.B,D.i i.I,D.i j.I,D.i k.I,D.i l.I,D.l m.L,D.l n.L,D.l o.L,D.l p.L,D.i 1,D.i q.I,D.i (IntKind.i64.wrap (r.I+(1:Int))),D.i s.I,D.i t.I,D.i u.I,D.i v.I,D.i w.I,D.l [[D.i r.I,D.i v.I,D.i q.I]]])) (T.leaf (Rd.again [D.i 0,D.l a.L,D.i b.I,D.i c.I,D.i d.I,D.i e.I,D.i f.I,D.l g.L,D.b h.B,D.i i.I,D.i j.I,D.i k.I,D.i l.I,D.l m.L,D.l n.L,D.l o.L,D.l p.L,D.i q.I,D.i (IntKind.i64.wrap (r.I+(1:Int))),D.i s.I,D.i t.I,D.i u.I,D.i v.I,D.i w.I])))) (T.leaf (Rd.out (Ex.exit 11) [D.i 0,D.l a.L,D.i b.I,D.i c.I,D.i d.I,D.i e.I,D.i f.I,D.l g.L,D.b h.B,D.i i.I,D.i j.I,D.i k.I,D.i l.I,D.l m.L,D.l n.L,D.l o.L,D.l p.L,D.i s.I,D.i t.I,D.i u.I,D.i v.I,D.i w.I]))):=by kernel_rfl
theorem xTb (a b c d e f g h i j k l m n o p q r s t u v w x y:D) :
 let X1:=(IntKind.i64.wrap (s.I+(1:Int)));let X2:=[[D.i s.I,D.i w.I,D.i r.I]];(xb4 C xy3 31 (xaa C.P 31 23) xq9 [.i 1,a,b,c,d,e,f,g,h,i,j,k,l,m,n,o,p,q,r,s,t,u,v,w,x,y]).run =
 T.run (T.ite (decide (s.I<=(6:Int))) (T.need (yes ((xan a.L b.I c.I d.I e.I f.I g.L h.B i.I j.I k.I l.I m.L n.L/\xat a.L o.L/\xbi o.L p.L)/\((1:Int)<=s.I/\s.I<=(7:Int))/\((0:Int)<=w.I/\w.I<(o.L.length:Int))/\(0:Int)<=r.I/\r.I<(a.L.length:Int))) (T.ite (xc7 a.L o.L c.I s.I w.I.toNat r.I.toNat) (T.need (decide (q.I.toNat<=y.L.length/\q.I.toNat+1<=2 ^ 62/\(q.I.toNat+1)*Tryz.prog.types[89].bytes<=2 ^ 47)) (T.leaf (Rd.again [D.i 1,D.l a.L,D.i b.I,D.i c.I,D.i d.I,D.i e.I,D.i f.I,D.l g.L,D.b h.B,D.i i.I,D.i j.I,D.i k.I,D.i l.I,D.l m.L,D.l n.L,D.l o.L,D.l p.L,D.i (↑(q.I.toNat+1):Int),D.i r.I,D.i X1,D.i t.I,D.i u.I,D.i v.I,D.i w.I,D.i x.I,D.l (List.take q.I.toNat y.L++List.take (List.length X2) X2)]))) (T.leaf (Rd.again [D.i 1,D.l a.L,D.i b.I,D.i c.I,D.i d.I,D.i e.I,D.i f.I,D.l g.L,D.b h.B,D.i i.I,D.i j.I,D.i k.I,D.i l.I,D.l m.L,D.l n.L,D.l o.L,D.l p.L,D.i (q.I.toNat:Int),D.i r.I,D.i X1,D.i t.I,D.i u.I,D.i v.I,D.i w.I,D.i x.I,D.l y.L])))) (T.leaf (Rd.out (Ex.exit 11) [D.i 1,D.l a.L,D.i b.I,D.i c.I,D.i d.I,D.i e.I,D.i f.I,D.l g.L,D.b h.B,D.i i.I,D.i j.I,D.i k.I,D.i l.I,D.l m.L,D.l n.L,D.l o.L,D.l p.L,D.i (q.I.toNat:Int),D.i t.I,D.i u.I,D.i v.I,D.i w.I,D.i x.I,D.l y.L]))):=by
 intros
 kernel_rfl
set_option maxRecDepth 100000
theorem xCs (l cs:List (List D)) (la:Int) (k j:Nat):byK l cs k j*la=if j+1=l.length then xbc l cs la k else 0:=by
 unfold byK byI xbc xhb;split
 ·rfl
 ·rw [Int.zero_mul]
theorem xt7 (n:Nat):xbo C (n+5) 30 (mkF s30 G30):=by
 refine xbk hC (sp:=yba) (lp:=ydk) (sw:=yaf) ⟨ych n,xUb (n+3),xUa (n+3),xT9 (n+1),trivial⟩ trivial (by kernel_rfl) [] (by kernel_rfl) rfl (fun k hk=>by cases hk) fun ds rr h=>?_
 unfold G30 at h;split at h
 ·rename_i l c la ea ml ll ju re mi no pe po pt ex cs ou kd k j;obtain ⟨hp,h⟩:=xab h;rw [xad] at hp;obtain ⟨⟨hp,hc,ho⟩,⟨d1,d7⟩,⟨k0,k1⟩,j0,j1⟩:=hp;refine (t30 l c la ea ml ll ju re mi no pe po pt ex cs ou kd k j).trans ?_;rw [<- h];obtain ⟨q,hq⟩:∃ q:Nat,k.I=q:=⟨k.I.toNat,by omega⟩;obtain ⟨r,hr⟩:∃ r:Nat,j.I=r:=⟨j.I.toNat,by omega⟩;have hq1:q<cs.L.length:=by omega
  have hr1:r<l.L.length:=by omega
  have hcq:=hc.2 q hq1;have hml:((cs.L.getD q []).getD 2 default).L.length=l.L.length:=hcq.2.2.1;obtain ⟨-,-,m3,m4,m5⟩:=hcq.2.2.2.1 r (by rw [hcq.2.2.1];exact hr1);have m3:((((cs.L.getD q []).getD 2 default).L.getD r []).getD 1 default).I=0:=m3;have m4:((((cs.L.getD q []).getD 2 default).L.getD r []).getD 2 default).B=false:=m4;have m5:((((cs.L.getD q []).getD 2 default).L.getD r []).getD 3 default).I=0:=m5;simp only [hq,hr,Int.toNat_natCast,Nat.reduceAdd,hml,m3,m4,m5] at k0 k1 j0 j1 ⊢;have e:kd.I=7\/kd.I=1\/kd.I=2\/kd.I=3\/kd.I=4\/kd.I=5\/kd.I=6:=by omega
  have hob:xbi cs.L ou.L/\0<=k.I/\k.I<cs.L.length:=⟨ho,by omega,by omega⟩;have hev:(xan l.L c.I la.I ea.I ml.I ll.I ju.L re.B mi.I no.I pe.I po.I pt.L ex.L/\xat l.L cs.L/\xbi cs.L ou.L):=⟨hp,hc,ho⟩;rcases e with e | e | e | e | e | e | e <;> simp only [e]
  ·refine xcx rfl (xai ⟨hev,by omega,by omega⟩ ?_);have:((r:Int) == 0)=xc7 l.L cs.L la.I 7 q r:=by
    unfold xc7;by_cases hr0:r=0
    ·subst hr0;rfl
    ·rw [decide_eq_false (p:=(7:Int)=7/\r=0) (fun h=>hr0 h.2),decide_eq_false (p:=(7:Int)=4/\_) (fun h=>by cases h.1)];exact beq_eq_false_iff_ne.2 (by omega)
   rw [this];rfl
  ·exact xaq rfl (xai ⟨ho,by omega,by omega⟩ (xau (by omega) (xau (by omega) (xcx rfl (xai ⟨hp,by omega,by omega⟩ rfl)))))
  ·exact xaq rfl (xai ⟨ho,by omega,by omega⟩ (xau (by omega) (xau (by omega) (xaq rfl (xcx rfl (xcx rfl rfl))))))
  ·exact xaq rfl (xai ⟨ho,by omega,by omega⟩ (xau (by omega) (xau (by omega) (xaq rfl (xaq rfl (xcx rfl (xai ⟨hp,by omega,by omega⟩ rfl)))))))
  ·refine xaq rfl (xai ⟨ho,by omega,by omega⟩ (xau (by omega) (xau (by omega) (xaq rfl (xaq rfl (xaq rfl (xcx rfl (xcx rfl (xai ⟨hev,by omega,by omega,by omega,by omega⟩ (xdk (fun c1=>?_) fun c1=>?_))))))))))
   ·have b0:=(xsz hc hq1 hr1).1;have b1:0<byK l.L cs.L q r:=by
     rcases Int.lt_or_eq_of_le b0 with b | b
     ·exact b
     ·rw [<- b,Int.zero_mul] at c1;omega
    have v:xc7 l.L cs.L la.I 4 q r=true:=by
     unfold xc7;rw [decide_eq_true (p:=(4:Int)=4/\_) ⟨rfl,c1⟩,Bool.or_true]
    rw [v];rw [xCe b1];rfl
   ·have v:xc7 l.L cs.L la.I 4 q r=false:=by
     unfold xc7;rw [decide_eq_false (p:=(4:Int)=4/\_) (fun h=>c1 h.2),decide_eq_false (p:=(4:Int)=7/\_) (fun h=>by cases h.1)];rfl
    rw [v];rfl
  ·refine xaq rfl (xai ⟨ho,by omega,by omega⟩ (xau (by omega) (xau (by omega) (xaq rfl (xaq rfl (xaq rfl (xaq rfl (xcx rfl (xai ⟨hev,by omega,by omega,by omega,by omega⟩ (xdk (fun c1=>?_) fun c1=>?_))))))))))
   ·have b0:=(xsz hc hq1 hr1).1;have b1:0<byK l.L cs.L q r:=by
     rcases Int.lt_or_eq_of_le b0 with b | b
     ·exact b
     ·rw [<- b,Int.zero_mul] at c1;omega
    rw [xCe b1];rfl
   ·rfl
  ·exact xaq rfl (xai ⟨ho,by omega,by omega⟩ (xau (by omega) (xau (by omega) (xaq rfl (xaq rfl (xaq rfl (xaq rfl (xaq rfl (xcx rfl (xcx rfl rfl))))))))))
 ·cases h
theorem xT7 (n:Nat):xbo C (n+6) 67 (mkF s67 G67):=by
 refine xbk hC (sp:=yat) (lp:=yc3) (sw:=xZy) ⟨xt7 n,trivial⟩ trivial (by kernel_rfl) [] (by kernel_rfl) rfl (fun k hk=>by cases hk) fun ds rr h=>?_
 unfold G67 at h;split at h
 ·rename_i l c la ea ml ll ju re mi no pe po pt ex cs ou kd k j;exact (t67 l c la ea ml ll ju re mi no pe po pt ex cs ou kd k j).trans h
 ·cases h
theorem xti {l cs:List (List D)} {la kd:Int} {k j:Nat} (h6:kd<=6):xc7 l cs la kd k j=decide ((kd=4/\j+1=l.length)/\0<xbc l cs la k):=by
 unfold xc7;rw [decide_eq_false (p:=kd=7/\j=0) (by omega),Bool.false_or,xCs];apply decide_eq_decide.2;by_cases e:j+1=l.length
 ·rw [if_pos e];exact ⟨fun h=>⟨⟨h.1,e⟩,h.2⟩,fun h=>⟨h.1.1,h.2⟩⟩
 ·rw [if_neg e];exact ⟨fun h=>absurd h.2 (by omega),fun h=>absurd h.1.2 e⟩
theorem xYh (n:Nat):xct C (n+6) 31 (xaa C.P 31 23) (mkL xq9 xJ2):=by
 refine xbb hC (sp:=xtv) (lp:=xug) (sw:=xtq) ⟨xT7 n,trivial⟩ trivial 0 [] (by kernel_rfl) rfl (fun k hk=>by cases hk) (by kernel_rfl) (fun ds=>(if ds.length=24 then 7 - (ds.getD 18 default).I else 7 - (ds.getD 19 default).I).toNat) fun ds rr h=>?_
 unfold xJ2 at h;split at h
 ·rename_i h0 l c la ea ml ll ju re mi no pe po pt ex cs ou i' c' x i kd k j;obtain ⟨hp,h⟩:=xab h;rw [xad] at hp;obtain ⟨⟨hh,hev⟩,hkd,hk,hx,hi,⟨i0,i1⟩,d1,d7⟩:=hp;refine ⟨by rw [xa9];show (7 - c'.I).toNat<_;omega,?_⟩;rw [xar (j:=h0) (n:=0) hh (by decide),show (xal C (xah xtv xug xtq) 31 (xaa C.P 31 23) 0 xq9 [.i 0,l,c,la,ea,ml,ll,ju,re,mi,no,pe,po,pt,ex,cs,ou,i',c',x,i,kd,k,j]).run=_ from xTc l c la ea ml ll ju re mi no pe po pt ex cs ou i' c' x i kd k j];rw [hi];refine xa2 (fun hlt=>?_) fun hge=>?_
  ·refine xbe ⟨hev,by omega,hk,i0,i1⟩ ?_;have w:IntKind.wrap .i64 (c'.I+1)=c'.I+1:=xas (by omega) (by omega);rw [xti (by omega),w];have hm:(7 - (c'.I+1)).toNat<(7 - c'.I).toNat:=by omega
   refine xa2 (fun c1=>?_) fun c1=>?_
   ·obtain ⟨⟨e4,e5⟩,e6⟩:=c1;rw [xa5,if_pos (decide_eq_true ⟨⟨by omega,by omega⟩,e6⟩)] at h;refine xaj ((xam ⟨⟨rfl,hev⟩,hkd,hk,hx,rfl,⟨i0,i1⟩,⟨by simp only [I_i];omega,by simp only [I_i];omega⟩,rfl⟩).trans ?_) hm;simp only [L_l,I_i,B_b];rw [show [[D.i c'.I,D.i k.I,D.i i.I]]=[[D.i 4,D.i k.I,D.i ((l.L.length - 1:Nat):Int)]] by rw [e4,show i.I=((l.L.length - 1:Nat):Int) by omega]];exact h
   ·have e:decide ((i.I=((l.L.length - 1:Nat):Int)/\c'.I<=4)/\0<xbc l.L cs.L la.I k.I.toNat)=decide ((i.I=((l.L.length - 1:Nat):Int)/\c'.I+1<=4)/\0<xbc l.L cs.L la.I k.I.toNat):=by
     apply decide_eq_decide.2;by_cases c4:c'.I=4
     ·exact ⟨fun x=>absurd ⟨⟨c4,by omega⟩,x.2⟩ c1,fun x=>absurd x.1.2 (by omega)⟩
     ·exact ⟨fun x=>⟨⟨x.1.1,by omega⟩,x.2⟩,fun x=>⟨⟨x.1.1,by omega⟩,x.2⟩⟩
    rw [e] at h;exact xaj ((xam ⟨⟨rfl,hev⟩,hkd,hk,hx,rfl,⟨i0,i1⟩,by simp only [I_i];omega,by simp only [I_i];omega⟩).trans h) hm
  ·rw [xa5,if_neg (by simp;omega)] at h;exact xao h
 ·rename_i h0 l c la ea ml ll ju re mi no pe po pt ex cs ou n' i' c' x i kd k j r;obtain ⟨hp,h⟩:=xab h;rw [xad] at hp;obtain ⟨⟨hh,hev⟩,hkd,hk,hx,hi,⟨i0,i1⟩,⟨d1,d7⟩,hn⟩:=hp;refine ⟨by rw [xa9];show (7 - c'.I).toNat<_;omega,?_⟩;rw [xar (j:=h0) (n:=1) hh (by decide),show (xal C (xah xtv xug xtq) 31 (xaa C.P 31 23) 0 xq9 [.i 1,l,c,la,ea,ml,ll,ju,re,mi,no,pe,po,pt,ex,cs,ou,n',i',c',x,i,kd,k,j,r]).run=_ from xTb l c la ea ml ll ju re mi no pe po pt ex cs ou n' i' c' x i kd k j r];have w1:((Int.toNat 1:Nat):Int)=1:=rfl;rw [hi,hn,w1];refine xa2 (fun hlt=>?_) fun hge=>xao h
  refine xbe ⟨hev,by omega,hk,i0,i1⟩ ?_;have w:IntKind.wrap .i64 (c'.I+1)=c'.I+1:=xas (by omega) (by omega);rw [xti (by omega),w];refine xem (fun c=>by have:=c.1.1;omega) ?_;exact xaj ((xam ⟨⟨rfl,hev⟩,hkd,hk,hx,rfl,⟨i0,i1⟩,⟨by simp only [I_i];omega,by simp only [I_i];omega⟩,rfl⟩).trans h) (show (7 - (c'.I+1)).toNat<(7 - c'.I).toNat by omega)
 ·cases h
theorem xYi (n:Nat):xct C (n+6) 31 (xaa C.P 31 20) (mkL xra xJ3):=by
 refine xbb hC (sp:=xtv) (lp:=xug) (sw:=xtq) ⟨xT7 n,trivial⟩ trivial 0 [23] (by kernel_rfl) (by kernel_rfl) (fun k hk L hL=>by simp at hk;subst hk;cases hL;exact xYh n) (by kernel_rfl) (fun ds=>((ds.getD 17 default).I - (ds.getD 18 default).I).toNat) fun ds rr h=>?_
 unfold xJ3 at h;split at h
 ·rename_i h0 l c la ea ml ll ju re mi no pe po pt ex cs ou x i kd k j;obtain ⟨hp,h⟩:=xab h;rw [xad] at hp;obtain ⟨⟨hh,hev⟩,hkd,hk,hx,⟨i0,i1⟩,hend⟩:=hp;obtain ⟨⟨l1,l2⟩,-⟩:=hev.1.1;refine ⟨by rw [xa9];show (x.I - i.I).toNat<_;omega,?_⟩;rw [xar (j:=h0) (n:=0) hh (by decide),show (xal C (xah xtv xug xtq) 31 (xaa C.P 31 20) 0 xra [.i 0,l,c,la,ea,ml,ll,ju,re,mi,no,pe,po,pt,ex,cs,ou,x,i,kd,k,j]).run=_ from xTe l c la ea ml ll ju re mi no pe po pt ex cs ou x i kd k j];refine xa2 (fun hlt=>?_) fun hge=>?_
  ·refine xbe ⟨⟨rfl,hev⟩,hkd,hk,hx,rfl,⟨i0,by omega⟩,by omega,by omega⟩ ?_;have w:IntKind.wrap .i64 (i.I+1)=i.I+1:=xas (by omega) (by omega);rw [w];refine xa2 (fun c1=>?_) fun c1=>?_
   ·obtain ⟨⟨e1,-⟩,e2⟩:=c1;rw [xa5,if_pos (decide_eq_true e2)] at h;exact xaj ((xam ⟨⟨rfl,hev⟩,hkd,hk,hx,by simp only [I_i,L_l];omega,rfl,rfl⟩).trans h) (show (1 - x.I).toNat<(x.I - i.I).toNat by omega)
   ·exact xaj ((xam ⟨⟨rfl,hev⟩,hkd,hk,hx,⟨by simp only [I_i];omega,by simp only [I_i,L_l];omega⟩,fun e c=>c1 ⟨⟨by simp only [I_i,L_l] at e;omega,by omega⟩,c⟩⟩).trans h) (show (x.I - (i.I+1)).toNat<(x.I - i.I).toNat by omega)
  ·rw [xa5,if_neg (by simpa using hend (by omega))] at h;exact xao h
 ·rename_i h0 l c la ea ml ll ju re mi no pe po pt ex cs ou n' x i kd k j r;obtain ⟨hp,h⟩:=xab h;rw [xad] at hp;obtain ⟨⟨hh,hev⟩,hkd,hk,hx,hi,hn,hr⟩:=hp;obtain ⟨⟨l1,l2⟩,-⟩:=hev.1.1;refine ⟨by rw [xa9];show (n'.I - x.I).toNat<_;omega,?_⟩;rw [xar (j:=h0) (n:=1) hh (by decide),show (xal C (xah xtv xug xtq) 31 (xaa C.P 31 20) 0 xra [.i 1,l,c,la,ea,ml,ll,ju,re,mi,no,pe,po,pt,ex,cs,ou,n',x,i,kd,k,j,r]).run=_ from xTd l c la ea ml ll ju re mi no pe po pt ex cs ou n' x i kd k j r];have w1:((Int.toNat 1:Nat):Int)=1:=rfl;rw [hn,w1,hr];exact xem (by omega) (xao h)
 ·cases h
theorem xx2 (n:Nat):xbo C (n+7) 31 (mkF s31 G31):=by
 refine xbk hC (sp:=xtv) (lp:=xug) (sw:=xtq) ⟨xT7 n,trivial⟩ trivial (by kernel_rfl) [9,15,20] (by kernel_rfl) (by kernel_rfl) (fun k hk L hL=>by
  simp at hk;rcases hk with rfl | rfl | rfl
  ·cases hL
  ·cases hL
  ·cases hL;exact xYi n) fun ds rr h=>?_
 unfold G31 at h;split at h
 ·rename_i l c la ea ml ll ju re mi no pe po pt ex cs ou kd k j;obtain ⟨hp,h⟩:=xab h;rw [xad] at hp;obtain ⟨hev,hkd,hk,hj⟩:=hp;obtain ⟨⟨l1,l2⟩,-⟩:=hev.1.1;refine (t31 l c la ea ml ll ju re mi no pe po pt ex cs ou kd k j).trans ?_;rw [<- h];rcases hkd with e | e <;> simp only [e]
  ·refine xaq rfl (xaq rfl (xaq rfl (xaq rfl ?_)));rw [xa5,if_neg (by simp)]
  ·refine xaq rfl (xaq rfl (xaq rfl (xcx rfl (xai ⟨⟨by trivial,hev⟩,by trivial,hk,by trivial,⟨by omega,by omega⟩,fun x=>by omega⟩ (xdk (fun c=>?_) fun c=>?_)))))
   ·rw [xa5,if_pos (decide_eq_true ⟨by trivial,c⟩)]
   ·rw [xa5,if_neg (by simpa using c)]
 ·cases h
def s95:Sig:=⟨[.k (.int .u64)],[(kIn,[])]⟩
def s69:Sig:=⟨[.k (.int .u64)],[(kIn,[])]⟩
def s85:SigW:=⟨[.sl 0 1,kIn,kIn],[bRo],[(.tup [],[bRo])]⟩
def xFn:LSig:=xcu [0,1,2,6] [(49,[(0,.sl 0 1),(1,kIn),(2,kIn),(6,kIn)],[bRo])] [(.exit 0,[],[(49,[],[bRo])])]
def s68:SigW:=⟨[.sl 0 1,kIn,kIn,kIn],[bRo],[(.tup [],[bRo])]⟩
def xFq:LSig:=xcu [0,1,2,3,8,9] [(134,[(0,.sl 0 1),(1,kIn),(2,kIn),(3,kIn),(8,kBo),(9,kBo)],[bRo])] [(.ret,[],[(134,[],[bRo])])]
def s32:SigW:=⟨[.sl 0 1],[bRo],[(.tup [],[bRo])]⟩
def xNc:SigW:=⟨[.nils,kIn,kIn],[],[(.tup [],[])]⟩
def xv3:LSig:=xcu [0,1,2,6] [(49,[(0,.nils),(1,kIn),(2,kIn),(6,kIn)],[])] [(.exit 0,[],[(49,[],[])])]
def xNd:SigW:=⟨[.nils,kIn,kIn,kIn],[],[(.tup [],[])]⟩
def xv4:LSig:=xcu [0,1,2,3,8,9] [(134,[(0,.nils),(1,kIn),(2,kIn),(3,kIn),(8,kBo),(9,kBo)],[])] [(.ret,[],[(134,[],[])])]
def xFd:SigW:=⟨[.nils],[],[(.tup [],[])]⟩
def s29:SigW:=⟨[.agg [kIn,kIn,kIn],.ptr 0 1 0 0,.ptr 1 1 0 0,.ptr 2 1 0 0],[.box [.ptr 3 16 0 0],.box [.mp 4],.box [.nils],.box (pPl++[.sl 5 3,.sl 6 1]),bMp,bCs,bRo],[(.tup [],[.box [.ptr 3 16 0 0],.box [.mp 4],.box [.nils],.box (pPl++[.sl 5 3,.sl 6 1]),bMp,bCs,bRo]),(.tup [],[.box [.ptr 3 16 0 0],.box [.mp 4],.box [.sl 7 5],.box (pPl++[.sl 5 3,.sl 6 1]),bMp,bCs,bRo,bTs])]⟩
def xpx:LSig:=xcu [2,3,4,7,38,39,40] [(64,[(2,.ptr 1 1 0 0),(3,.ptr 2 1 0 0),(4,.ptr 7 3 0 0),(7,.ptr 8 5 0 0),(38,.nils),(39,kIn),(40,kIn)],[.box [.ptr 3 16 0 0],.box [.mp 4],.box [.nils],.box (pPl++[.sl 5 3,.sl 6 1]),bMp,bCs,bRo,.box [kIn,kIn,kIn],.box [kIn,kIn,kIn,kIn,.nils]]),(64,[(2,.ptr 1 1 0 0),(3,.ptr 2 1 0 0),(4,.ptr 7 3 0 0),(7,.ptr 8 5 0 0),(38,.sl 9 3),(39,kIn),(40,kIn)],[.box [.ptr 3 16 0 0],.box [.mp 4],.box [.nils],.box (pPl++[.sl 5 3,.sl 6 1]),bMp,bCs,bRo,.box [kIn,kIn,kIn],.box [kIn,kIn,kIn,kIn,.nils],bKs]),(64,[(2,.ptr 1 1 0 0),(3,.ptr 2 1 0 0),(4,.ptr 7 3 0 0),(7,.ptr 8 5 0 0),(38,.sl 9 3),(39,kIn),(40,kIn)],[.box [.ptr 3 16 0 0],.box [.mp 4],.box [.nils],.box (pPl++[.sl 5 3,.sl 6 1]),bMp,bCs,bRo,.box [kIn,kIn,kIn],.box [kIn,kIn,kIn,kIn,.sl 10 1],bKs,bRo])] [(.exit 0,[2,3,4,7],[(64,[(2,.ptr 1 1 0 0),(3,.ptr 2 1 0 0),(4,.ptr 7 3 0 0),(7,.ptr 8 5 0 0)],[.box [.ptr 3 16 0 0],.box [.mp 4],.box [.nils],.box (pPl++[.sl 5 3,.sl 6 1]),bMp,bCs,bRo,.box [kIn,kIn,kIn],.box [kIn,kIn,kIn,kIn,.nils]]),(64,[(2,.ptr 1 1 0 0),(3,.ptr 2 1 0 0),(4,.ptr 7 3 0 0),(7,.ptr 8 5 0 0)],[.box [.ptr 3 16 0 0],.box [.mp 4],.box [.nils],.box (pPl++[.sl 5 3,.sl 6 1]),bMp,bCs,bRo,.box [kIn,kIn,kIn],.box [kIn,kIn,kIn,kIn,.sl 9 1],bRo])])]
def xNf:SigW:=⟨[.agg [kIn,kIn,kIn],.ptr 0 1 0 0,.ptr 1 1 0 0,.ptr 2 1 0 0],[.box [.ptr 3 16 0 0],.box [.mp 4],.box [.sl 5 5],.box (pPl++[.sl 6 3,.sl 7 1]),bMp,bTs,bCs,bRo],[(.tup [],[.box [.ptr 3 16 0 0],.box [.mp 4],.box [.sl 5 5],.box (pPl++[.sl 6 3,.sl 7 1]),bMp,bTs,bCs,bRo]),(.tup [],[.box [.ptr 3 16 0 0],.box [.mp 4],.box [.sl 8 5],.box (pPl++[.sl 6 3,.sl 7 1]),bMp,.none,bCs,bRo,bTs])]⟩
def xld:LSig:=xcu [2,3,4,7,38,39,40] [(64,[(2,.ptr 1 1 0 0),(3,.ptr 2 1 0 0),(4,.ptr 8 3 0 0),(7,.ptr 9 5 0 0),(38,.nils),(39,kIn),(40,kIn)],[.box [.ptr 3 16 0 0],.box [.mp 4],.box [.sl 5 5],.box (pPl++[.sl 6 3,.sl 7 1]),bMp,bTs,bCs,bRo,.box [kIn,kIn,kIn],.box [kIn,kIn,kIn,kIn,.nils]]),(64,[(2,.ptr 1 1 0 0),(3,.ptr 2 1 0 0),(4,.ptr 8 3 0 0),(7,.ptr 9 5 0 0),(38,.sl 10 3),(39,kIn),(40,kIn)],[.box [.ptr 3 16 0 0],.box [.mp 4],.box [.sl 5 5],.box (pPl++[.sl 6 3,.sl 7 1]),bMp,bTs,bCs,bRo,.box [kIn,kIn,kIn],.box [kIn,kIn,kIn,kIn,.nils],bKs]),(64,[(2,.ptr 1 1 0 0),(3,.ptr 2 1 0 0),(4,.ptr 8 3 0 0),(7,.ptr 9 5 0 0),(38,.sl 10 3),(39,kIn),(40,kIn)],[.box [.ptr 3 16 0 0],.box [.mp 4],.box [.sl 5 5],.box (pPl++[.sl 6 3,.sl 7 1]),bMp,bTs,bCs,bRo,.box [kIn,kIn,kIn],.box [kIn,kIn,kIn,kIn,.sl 11 1],bKs,bRo])] [(.exit 0,[2,3,4,7],[(64,[(2,.ptr 1 1 0 0),(3,.ptr 2 1 0 0),(4,.ptr 8 3 0 0),(7,.ptr 9 5 0 0)],[.box [.ptr 3 16 0 0],.box [.mp 4],.box [.sl 5 5],.box (pPl++[.sl 6 3,.sl 7 1]),bMp,bTs,bCs,bRo,.box [kIn,kIn,kIn],.box [kIn,kIn,kIn,kIn,.nils]]),(64,[(2,.ptr 1 1 0 0),(3,.ptr 2 1 0 0),(4,.ptr 8 3 0 0),(7,.ptr 9 5 0 0)],[.box [.ptr 3 16 0 0],.box [.mp 4],.box [.sl 5 5],.box (pPl++[.sl 6 3,.sl 7 1]),bMp,bTs,bCs,bRo,.box [kIn,kIn,kIn],.box [kIn,kIn,kIn,kIn,.sl 10 1],bRo])])]
noncomputable section
abbrev kk3:List K:=[.int .i64,.int .i64,.int .i64]
def xkc (mp:List (List D)) (key:List D):Int:=if xjk kk3 key mp=true then (xjh kk3 key mp).I else 0
def xm5 (l cs:List (List D)) (la:Int) (mp:List (List D)) (kd k:Int):List (List D):=if kd=7/\0<xbc l cs la k.toNat then [[.i (xkc mp [.i 4,.i k,.i ((l.length - 1:Nat):Int)])]] else []
def xmi (l cs:List (List D)) (la:Int) (mp:List (List D)) (kd k j:Int):List D:=[.i kd,.i k,.i j,.i (xi1 l cs la kd k.toNat j.toNat),.l (xm5 l cs la mp kd k)]
def xhn (l cs:List (List D)) (la:Int) (p:List (List D)×List (List D)) (kd k j:Int):List (List D)×List (List D):=
 if xc7 l cs la kd k.toNat j.toNat=true then (xf9 kk3 [.i kd,.i k,.i j] (.i (p.2.length:Int)) p.1,p.2++[xmi l cs la p.1 kd k j]) else p
def G95 (ds:List D):T (List D):=match ds with
 | [x]=>.need (yes (0<=x.I/\x.I<=1)) (.leaf [.i x.I])
 | _=>.fail
def G69 (ds:List D):T (List D):=match ds with
 | [x]=>.need (yes (0<=x.I/\x.I<=1)) (.leaf [.i x.I])
 | _=>.fail
def xPo (ds:List D):T (Ex×List D):=match ds with
 | [_,_,b,i,r]=>.need (yes (b.I<=i.I)) (.leaf (.exit 0,[.l r.L]))
 | _=>.fail
def G85 (ds:List D):T (List D):=match ds with
 | [_,a,b,r]=>.need (yes (a.I=0/\b.I<=1)) (.leaf [.l r.L])
 | _=>.fail
def xPq (ds:List D):T (Ex×List D):=match ds with
 | [n,a,b,_,_,_,r]=>.need (yes (a.I=0/\b.I<=1/\0<=b.I/\n.I=b.I)) (.leaf (.ret,[.l r.L]))
 | _=>.fail
def G68 (ds:List D):T (List D):=match ds with
 | [n,a,b,_,r]=>.need (yes (a.I=0/\b.I<=1/\0<=b.I/\n.I=b.I)) (.leaf [.l r.L])
 | _=>.fail
def G32 (ds:List D):T (List D):=match ds with
 | [n,r]=>.need (yes (0<=n.I/\n.I<=1)) (.leaf [.l r.L])
 | _=>.fail
def xC3 (ds:List D):T (Ex×List D):=match ds with
 | [_,b,i]=>.need (yes (b.I<=i.I)) (.leaf (.exit 0,[]))
 | _=>.fail
def xQb (ds:List D):T (List D):=match ds with
 | [a,b]=>.need (yes (a.I=0/\b.I<=1)) (.leaf [])
 | _=>.fail
def xC4 (ds:List D):T (Ex×List D):=match ds with
 | [a,b,_,_,_]=>.need (yes (a.I=0/\b.I=0)) (.leaf (.ret,[]))
 | _=>.fail
def xQc (ds:List D):T (List D):=match ds with
 | [a,b,_]=>.need (yes (a.I=0/\b.I=0)) (.leaf [])
 | _=>.fail
def xGh (ds:List D):T (List D):=match ds with
 | []=>.leaf []
 | _=>.fail
def xPy (ds:List D):T (Ex×List D):=match ds with
 | [h,x,i,l,c,la,ea,ml,ll,ju,re,mi,no,pe,po,pt,ex,nc,nu,mp,cs,ou,kd,k,j,kd',k',j',v]=>.need (yes (h.I=0/\x.I=0/\i.I=0/\(nc.I=cs.L.length/\nu.I=ou.L.length))) (.leaf (.exit 0,[.i 0,.l l.L,.i c.I,.i la.I,.i ea.I,.i ml.I,.i ll.I,.l ju.L,.b re.B,.i mi.I,.i no.I,.i pe.I,.i po.I,.l pt.L,.l ex.L,.i nc.I,.i nu.I,.l mp.L,.l cs.L,.l ou.L,.i kd.I,.i k.I,.i j.I,.i kd'.I,.i k'.I,.i j'.I,.i v.I]))
 | h::[n,x,i,l,c,la,ea,ml,ll,ju,re,mi,no,pe,po,pt,ex,nc,nu,mp,cs,ou,kd,k,j,kd',k',j',v,pr]=>.need (yes (h.I=1/\n.I=1/\x.I=1/\i.I=0/\(nc.I=cs.L.length/\nu.I=ou.L.length)/\pr.L=[[.i 4,.i k.I,.i ((l.L.length - 1:Nat):Int)]])) (.leaf (.exit 0,[.i 1,.l l.L,.i c.I,.i la.I,.i ea.I,.i ml.I,.i ll.I,.l ju.L,.b re.B,.i mi.I,.i no.I,.i pe.I,.i po.I,.l pt.L,.l ex.L,.i nc.I,.i nu.I,.l mp.L,.l cs.L,.l ou.L,.i kd.I,.i k.I,.i j.I,.i kd'.I,.i k'.I,.i j'.I,.i v.I,.i 1,.l [[.i (xkc mp.L [.i 4,.i k.I,.i ((l.L.length - 1:Nat):Int)])]]]))
 | h::_::x::[i,l,c,la,ea,ml,ll,ju,re,mi,no,pe,po,pt,ex,nc,nu,mp,cs,ou,kd,k,j,kd',k',j',v,nf,_,fr]=>.need (yes (h.I=2/\x.I=1/\i.I=1/\nf.I=1/\(nc.I=cs.L.length/\nu.I=ou.L.length))) (.leaf (.exit 0,[.i 1,.l l.L,.i c.I,.i la.I,.i ea.I,.i ml.I,.i ll.I,.l ju.L,.b re.B,.i mi.I,.i no.I,.i pe.I,.i po.I,.l pt.L,.l ex.L,.i nc.I,.i nu.I,.l mp.L,.l cs.L,.l ou.L,.i kd.I,.i k.I,.i j.I,.i kd'.I,.i k'.I,.i j'.I,.i v.I,.i 1,.l fr.L]))
 | _=>.fail
def G29 (ds:List D):T (List D):=match ds with
 | [kd,k,j,l,c,la,ea,ml,ll,ju,re,mi,no,pe,po,pt,ex,nc,nu,mp,cs,ou]=>.need (yes ((xan l.L c.I la.I ea.I ml.I ll.I ju.L re.B mi.I no.I pe.I po.I pt.L ex.L/\xat l.L cs.L/\xbi cs.L ou.L)/\(1<=kd.I/\kd.I<=7)/\(0<=k.I/\k.I<cs.L.length)/\(0<=j.I/\j.I<l.L.length)/\(nc.I=cs.L.length/\nu.I=ou.L.length))) (.ite (xc7 l.L cs.L la.I kd.I k.I.toNat j.I.toNat) (.leaf [.i 1,.i 1,.l l.L,.i c.I,.i la.I,.i ea.I,.i ml.I,.i ll.I,.l ju.L,.b re.B,.i mi.I,.i no.I,.i pe.I,.i po.I,.l pt.L,.l ex.L,.i nc.I,.i nu.I,.l (xf9 kk3 [.i kd.I,.i k.I,.i j.I] (.i 0) mp.L),.l cs.L,.l ou.L,.l ([xmi l.L cs.L la.I mp.L kd.I k.I j.I])]) (.leaf [.i 0,.l l.L,.i c.I,.i la.I,.i ea.I,.i ml.I,.i ll.I,.l ju.L,.b re.B,.i mi.I,.i no.I,.i pe.I,.i po.I,.l pt.L,.l ex.L,.i nc.I,.i nu.I,.l mp.L,.l cs.L,.l ou.L]))
 | _=>.fail
def xC5 (ds:List D):T (Ex×List D):=match ds with
 | h::[x,i,nO,l,c,la,ea,ml,ll,ju,re,mi,no,pe,po,pt,ex,nc,nu,mp,O,cs,ou,kd,k,j,kd',k',j',v]=>.need (yes (h.I=0/\x.I=0/\i.I=0/\(nc.I=cs.L.length/\nu.I=ou.L.length)/\nO.I=O.L.length/\O.L.length<=1000)) (.leaf (.exit 0,[.i 0,.i nO.I,.l l.L,.i c.I,.i la.I,.i ea.I,.i ml.I,.i ll.I,.l ju.L,.b re.B,.i mi.I,.i no.I,.i pe.I,.i po.I,.l pt.L,.l ex.L,.i nc.I,.i nu.I,.l mp.L,.l O.L,.l cs.L,.l ou.L,.i kd.I,.i k.I,.i j.I,.i kd'.I,.i k'.I,.i j'.I,.i v.I]))
 | h::n::x::[i,nO,l,c,la,ea,ml,ll,ju,re,mi,no,pe,po,pt,ex,nc,nu,mp,O,cs,ou,kd,k,j,kd',k',j',v,pr]=>.need (yes (h.I=1/\n.I=1/\x.I=1/\i.I=0/\(nc.I=cs.L.length/\nu.I=ou.L.length)/\nO.I=O.L.length/\O.L.length<=1000/\pr.L=[[.i 4,.i k.I,.i ((l.L.length - 1:Nat):Int)]])) (.leaf (.exit 0,[.i 1,.i nO.I,.l l.L,.i c.I,.i la.I,.i ea.I,.i ml.I,.i ll.I,.l ju.L,.b re.B,.i mi.I,.i no.I,.i pe.I,.i po.I,.l pt.L,.l ex.L,.i nc.I,.i nu.I,.l mp.L,.l O.L,.l cs.L,.l ou.L,.i kd.I,.i k.I,.i j.I,.i kd'.I,.i k'.I,.i j'.I,.i v.I,.i 1,.l [[.i (xkc mp.L [.i 4,.i k.I,.i ((l.L.length - 1:Nat):Int)])]]]))
 | h::_::x::i::nO::[l,c,la,ea,ml,ll,ju,re,mi,no,pe,po,pt,ex,nc,nu,mp,O,cs,ou,kd,k,j,kd',k',j',v,nf,_,fr]=>.need (yes (h.I=2/\x.I=1/\i.I=1/\nf.I=1/\(nc.I=cs.L.length/\nu.I=ou.L.length)/\nO.I=O.L.length/\O.L.length<=1000)) (.leaf (.exit 0,[.i 1,.i nO.I,.l l.L,.i c.I,.i la.I,.i ea.I,.i ml.I,.i ll.I,.l ju.L,.b re.B,.i mi.I,.i no.I,.i pe.I,.i po.I,.l pt.L,.l ex.L,.i nc.I,.i nu.I,.l mp.L,.l O.L,.l cs.L,.l ou.L,.i kd.I,.i k.I,.i j.I,.i kd'.I,.i k'.I,.i j'.I,.i v.I,.i 1,.l fr.L]))
 | _=>.fail
def xQe (ds:List D):T (List D):=match ds with
 | [kd,k,j,nO,l,c,la,ea,ml,ll,ju,re,mi,no,pe,po,pt,ex,nc,nu,mp,O,cs,ou]=>.need (yes ((xan l.L c.I la.I ea.I ml.I ll.I ju.L re.B mi.I no.I pe.I po.I pt.L ex.L/\xat l.L cs.L/\xbi cs.L ou.L)/\(1<=kd.I/\kd.I<=7)/\(0<=k.I/\k.I<cs.L.length)/\(0<=j.I/\j.I<l.L.length)/\(nc.I=cs.L.length/\nu.I=ou.L.length)/\nO.I=O.L.length/\O.L.length<=1000)) (.ite (xc7 l.L cs.L la.I kd.I k.I.toNat j.I.toNat) (.leaf [.i 1,.i (O.L.length+1:Nat),.l l.L,.i c.I,.i la.I,.i ea.I,.i ml.I,.i ll.I,.l ju.L,.b re.B,.i mi.I,.i no.I,.i pe.I,.i po.I,.l pt.L,.l ex.L,.i nc.I,.i nu.I,.l (xf9 kk3 [.i kd.I,.i k.I,.i j.I] (.i (O.L.length:Nat)) mp.L),.l cs.L,.l ou.L,.l (O.L++[xmi l.L cs.L la.I mp.L kd.I k.I j.I])]) (.leaf [.i 0,.i nO.I,.l l.L,.i c.I,.i la.I,.i ea.I,.i ml.I,.i ll.I,.l ju.L,.b re.B,.i mi.I,.i no.I,.i pe.I,.i po.I,.l pt.L,.l ex.L,.i nc.I,.i nu.I,.l mp.L,.l O.L,.l cs.L,.l ou.L]))
 | _=>.fail
end
def xvr:List (SigW×(List D->T (List D)))->List SV->xav->T (SV×xav)
 | [],_,_=>.fail
 | p :: r,args,h=>match xdv p.1.args args,xm6 p.1.hin h with
   | some a,some b=>(p.2 (a++b)).map (xp3 p.1.res)
   | _,_=>xvr r args h
def xWz (C:Cfg) (n:Nat) (f:FuncId):List (SigW×(List D->T (List D)))->Prop
 | []=>True
 | p::r=>xeu C n f (xdm p.1 p.2)/\xWz C n f r
theorem xhy {C:Cfg} {n:Nat} {f:FuncId}:∀ {l:List (SigW×(List D->T (List D)))},xWz C n f l->xeu C n f (xvr l)
 | [],_=>fun args h v hb hv=>by cases hv
 | p :: r,hl=>fun args h v hb hv avs h0 h1 h2 S H s=>by
   unfold xvr at hv;split at hv
   ·rename_i a b e1 e2;exact hl.1 args h v hb (by unfold xdm;rw [e1,e2];exact hv) avs h0 h1 h2 S H s
   ·exact xhy hl.2 args h v hb hv avs h0 h1 h2 S H s
def xG1:SpL:=[]
def xH0:LpL:=[]
def xGp:SwL:=[]
def yas:SpL:=[(95,mkF s95 G95)]
def yc2:LpL:=[]
def xZx:SwL:=[]
def yef:Tab:=xah yas yc2 xZx
def xMx:SpL:=[]
def xOc:LpL:=[(1,xde 1 xFn xPo)]
def xMn:SwL:=[]
def xV6:Tab:=xah xMx xOc xMn
def xM0:SpL:=[]
def xOf:LpL:=[(2,xde 1 xFq xPq)]
def xMq:SwL:=[(85,xdm s85 G85)]
def xV8:Tab:=xah xM0 xOf xMq
def ya9:SpL:=[(69,mkF s69 G69)]
def ydj:LpL:=[]
def yae:SwL:=[(68,xdm s68 G68)]
def yex:Tab:=xah ya9 ydj yae
def xzh:SpL:=[]
def xz7:LpL:=[(1,mkL xv3 xC3)]
def xy6:SwL:=[]
def xK8:Tab:=xah xzh xz7 xy6
def xzi:SpL:=[]
def xz8:LpL:=[(2,mkL xv4 xC4)]
def xy7:SwL:=[(85,xdm xNc xQb)]
def xK9:Tab:=xah xzi xz8 xy7
def xQx:SpL:=[(69,mkF s69 G69)]
def xRu:LpL:=[]
def xQr:SwL:=[(68,xdm xNd xQc)]
def xW9:Tab:=xah xQx xRu xQr
def xB0:SpL:=[(30,mkF s30 G30),(31,mkF s31 G31)]
def xB6:LpL:=[(8,xde 7 xpx xPy)]
def xBx:SwL:=[(32,xvr [(s32,G32),(xFd,xGh)])]
def xE8:Tab:=xah xB0 xB6 xBx
def xqx:SpL:=[(30,mkF s30 G30),(31,mkF s31 G31)]
def xq5:LpL:=[(8,xde 8 xld xC5)]
def xqs:SwL:=[(32,xvr [(s32,G32),(xFd,xGh)])]
def xvm:Tab:=xah xqx xq5 xqs
set_option linter.unusedVariables false
set_option maxRecDepth 100000
theorem t69 (a:D):(fnT C yef 69 s69 [a]).run =
 T.run (T.need (yes ((0:Int)<=a.I/\a.I<=(1:Int))) (T.leaf [D.i a.I])):=by kernel_rfl
theorem t85 (a b c d:D):(xh2 C xV6 85 s85 [a,b,c,d]).run =
 T.run (T.need (yes (c.I<=IntKind.i64.wrap (b.I+(1:Int)))) (T.leaf [D.l d.L])):=by kernel_rfl
theorem ye6 (a b c d e:D):(xal C xV6 85 (xaa C.P 85 1) 1 xFn [a,b,c,d,e]).run =
 T.run (T.ite (decide (d.I<c.I)) T.fail (T.leaf (Rd.out (Ex.exit 0) [D.l e.L]))):=by kernel_rfl
theorem t68 (a b c d e:D):(xh2 C xV8 68 s68 [a,b,c,d,e]).run =
 T.run (T.need (yes (b.I=(0:Int)/\c.I<=(1:Int)/\(0:Int)<=c.I/\(a.I.toNat:Int)=c.I)) (T.leaf [D.l e.L])):=by kernel_rfl
theorem ye9 (a b c d e f g:D):(xal C xV8 68 (xaa C.P 68 2) 1 xFq [a,b,c,d,e,f,g]).run =
 T.run (T.ite (decide (IntKind.i64.wrap (c.I - b.I)<=(12:Int))) (T.need (yes (b.I=(0:Int)/\c.I<=(1:Int))) (T.leaf (Rd.out Ex.ret [D.l g.L]))) (T.ite (d.I == (0:Int)) T.fail (T.ite (!e.B) T.fail T.fail))):=by kernel_rfl
theorem t32 (a b:D):(xh2 C yex 32 s32 [a,b]).run =
 T.run (T.need (yes ((0:Int)<=IntKind.wrap IntKind.u64 (a.I.toNat:Int)/\IntKind.wrap IntKind.u64 (a.I.toNat:Int)<=(1:Int))) (T.need (yes ((0:Int)=(0:Int)/\(a.I.toNat:Int)<=(1:Int)/\(0:Int)<=(a.I.toNat:Int)/\(a.I.toNat:Int)=(a.I.toNat:Int))) (T.leaf [D.l b.L]))):=by kernel_rfl
theorem yfr (a b:D):(xh2 C xK8 85 xNc [a,b]).run =
 T.run (T.need (yes (b.I<=IntKind.i64.wrap (a.I+(1:Int)))) (T.leaf [])):=by kernel_rfl
theorem xX0 (a b c:D):(xb4 C xK8 85 (xaa C.P 85 1) xv3 [a,b,c]).run =
 T.run (T.ite (decide (c.I<b.I)) T.fail (T.leaf (Rd.out (Ex.exit 0) []))):=by kernel_rfl
theorem yfs (a b c:D):(xh2 C xK9 68 xNd [a,b,c]).run =
 T.run (T.need (yes (a.I=(0:Int)/\b.I=(0:Int))) (T.leaf [])):=by kernel_rfl
theorem xX1 (a b c d e:D):(xb4 C xK9 68 (xaa C.P 68 2) xv4 [a,b,c,d,e]).run =
 T.run (T.ite (decide (IntKind.i64.wrap (b.I - a.I)<=(12:Int))) (T.need (yes (a.I=(0:Int)/\b.I<=(1:Int))) (T.leaf (Rd.out Ex.ret []))) (T.ite (c.I == (0:Int)) T.fail (T.ite (!d.B) T.fail T.fail))):=by kernel_rfl
theorem yfu:(xh2 C xW9 32 xFd []).run =
 T.run (T.need (yes ((0:Int)<=IntKind.wrap IntKind.u64 (↑0:Int)/\IntKind.wrap IntKind.u64 (↑0:Int)<=(1:Int))) (T.need (yes ((0:Int)=(0:Int)/\(↑0:Int)=(0:Int))) (T.leaf []))):=by kernel_rfl
set_option linter.unusedVariables false
set_option maxRecDepth 100000
theorem t29 (a b c d e f g h i j k l m n o p q r s t u v:D) :
 let X1:=T.need (yes ((↑0:Int)=(0:Int)/\(↑0:Int)=(0:Int)/\(0:Int)=(0:Int)/\(r.I.toNat:Int)=(u.L.length:Int)/\(s.I.toNat:Int)=(v.L.length:Int))) (T.leaf [D.i 1,D.i 1,D.l d.L,D.i e.I,D.i f.I,D.i g.I,D.i h.I,D.i i.I,D.l j.L,D.b k.B,D.i l.I,D.i m.I,D.i n.I,D.i o.I,D.l p.L,D.l q.L,D.i (↑(Int.toNat (r.I.toNat:Int)):Int),D.i (↑(Int.toNat (s.I.toNat:Int)):Int),D.l (xf9 [K.int IntKind.i64,K.int IntKind.i64,K.int IntKind.i64] [D.i a.I,D.i b.I,D.i c.I] (D.i (↑0:Int)) t.L),D.l u.L,D.l v.L,D.l [[D.i a.I,D.i b.I,D.i c.I,D.i (xi1 d.L (List.take r.I.toNat u.L) f.I a.I b.I.toNat c.I.toNat),D.l []]]]);let X3:=xan d.L e.I f.I g.I h.I i.I j.L k.B l.I m.I n.I o.I p.L q.L/\xat d.L (List.take r.I.toNat u.L)/\xbi (List.take r.I.toNat u.L) (List.take s.I.toNat v.L);let X4:=[[D.i 4,D.i b.I,D.i (↑(d.L.length - 1):Int)]];let X5:=(↑(Int.toNat (1:Int)):Int);let X6:=((r.I.toNat:Int)=(u.L.length:Int)/\(s.I.toNat:Int)=(v.L.length:Int));let X7:=((0:Int)<=b.I/\b.I<(↑(List.length (List.take r.I.toNat u.L)):Int));let X8:=(↑(Int.toNat (xHx (1:Int) X5)):Int);let X9:=decide (r.I.toNat<=u.L.length);let X10:=decide (s.I.toNat<=v.L.length);let X2:=T.need (yes ((0:Int)<=X5/\X5<=(1:Int))) (T.leaf [D.i 1,D.i 1,D.l d.L,D.i e.I,D.i f.I,D.i g.I,D.i h.I,D.i i.I,D.l j.L,D.b k.B,D.i l.I,D.i m.I,D.i n.I,D.i o.I,D.l p.L,D.l q.L,D.i (↑(Int.toNat (r.I.toNat:Int)):Int),D.i (↑(Int.toNat (s.I.toNat:Int)):Int),D.l (xf9 [K.int IntKind.i64,K.int IntKind.i64,K.int IntKind.i64] [D.i a.I,D.i b.I,D.i c.I] (D.i (↑0:Int)) t.L),D.l u.L,D.l v.L,D.l [[D.i a.I,D.i b.I,D.i c.I,D.i (xi1 d.L (List.take r.I.toNat u.L) f.I a.I b.I.toNat c.I.toNat),D.l [[D.i (xkc t.L [D.i 4,D.i b.I,D.i (↑(d.L.length - 1):Int)])]]]]]);(xh2 C xE8 29 s29 [a,b,c,d,e,f,g,h,i,j,k,l,m,n,o,p,q,r,s,t,u,v]).run =
 T.run (T.need X9 (T.need X10 (T.need (yes (X3/\((1:Int)<=a.I/\a.I<=(7:Int))/\X7/\(0:Int)<=c.I/\c.I<(d.L.length:Int))) (T.ite (!xc7 d.L (List.take r.I.toNat u.L) f.I a.I b.I.toNat c.I.toNat) (T.leaf [D.i 0,D.l d.L,D.i e.I,D.i f.I,D.i g.I,D.i h.I,D.i i.I,D.l j.L,D.b k.B,D.i l.I,D.i m.I,D.i n.I,D.i o.I,D.l p.L,D.l q.L,D.i (r.I.toNat:Int),D.i (s.I.toNat:Int),D.l t.L,D.l u.L,D.l v.L]) (T.need X9 (T.need X10 (T.need (yes (X3/\(a.I=(4:Int)\/a.I=(7:Int))/\X7/\(0:Int)<=c.I/\c.I<(d.L.length:Int))) (T.ite (decide (a.I=(7:Int)/\(0:Int)<xbc d.L (List.take r.I.toNat u.L) f.I b.I.toNat)) (T.ite (a.I == (3:Int)) (T.need (yes ((↑(0+1):Int)=(1:Int)/\X8=(1:Int)/\X8=(1:Int)/\(0:Int)=(0:Int)/\X6/\X4=X4)) X2) (T.need (yes ((↑(0+1):Int)=(1:Int)/\X5=(1:Int)/\X5=(1:Int)/\(0:Int)=(0:Int)/\X6/\X4=X4)) X2)) (T.ite (a.I == (3:Int)) X1 X1))))))))):=by
 intros
 kernel_rfl
theorem xXn (a b c d e f g h i j k l m n o p q r s t u v w x y z z26 z27:D):(xal C xE8 29 (xaa C.P 29 8) 7 xpx [.i 0,a,b,c,d,e,f,g,h,i,j,k,l,m,n,o,p,q,r,s,t,u,v,w,x,y,z,z26,z27]).run =
 T.run (T.ite (decide (b.I<a.I)) T.fail (T.leaf (Rd.out (Ex.exit 0) [D.i 0,D.l c.L,D.i d.I,D.i e.I,D.i f.I,D.i g.I,D.i h.I,D.l i.L,D.b j.B,D.i k.I,D.i l.I,D.i m.I,D.i n.I,D.l o.L,D.l p.L,D.i (q.I.toNat:Int),D.i (r.I.toNat:Int),D.l s.L,D.l t.L,D.l u.L,D.i v.I,D.i w.I,D.i x.I,D.i y.I,D.i z.I,D.i z26.I,D.i z27.I]))):=by kernel_rfl
theorem xXm (a b c d e f g h i j k l m n o p q r s t u v w x y z z26 z27 z28 z29:D) :
 let X1:=[D.i (D.I (List.getD (List.getD z29.L c.I.toNat []) 0 default)),D.i (D.I (List.getD (List.getD z29.L c.I.toNat []) (0+1) default)),D.i (D.I (List.getD (List.getD z29.L c.I.toNat []) (0+1+1) default))];let X2:=[K.int IntKind.i64,K.int IntKind.i64,K.int IntKind.i64];let X3:=(IntKind.i64.wrap (c.I+(1:Int)));(xal C xE8 29 (xaa C.P 29 8) 7 xpx (.i 1::[a,b,c,d,e,f,g,h,i,j,k,l,m,n,o,p,q,r,s,t,u,v,w,x,y,z,z26,z27,z28,z29])).run =
 T.run (T.ite (decide (c.I<b.I)) (T.need (decide ((0:Int)<=c.I/\c.I<(a.I.toNat:Int))) (T.need (decide (c.I.toNat<z29.L.length)) (T.ite (xjk X2 X1 t.L) (T.leaf (Rd.again [D.i 2,D.i (a.I.toNat:Int),D.i b.I,D.i X3,D.l d.L,D.i e.I,D.i f.I,D.i g.I,D.i h.I,D.i i.I,D.l j.L,D.b k.B,D.i l.I,D.i m.I,D.i n.I,D.i o.I,D.l p.L,D.l q.L,D.i (r.I.toNat:Int),D.i (s.I.toNat:Int),D.l t.L,D.l u.L,D.l v.L,D.i w.I,D.i x.I,D.i y.I,D.i z.I,D.i z26.I,D.i z27.I,D.i z28.I,D.i 1,D.l z29.L,D.l [[D.i (D.I (xjh X2 X1 t.L))]]])) (T.leaf (Rd.again [D.i 2,D.i (a.I.toNat:Int),D.i b.I,D.i X3,D.l d.L,D.i e.I,D.i f.I,D.i g.I,D.i h.I,D.i i.I,D.l j.L,D.b k.B,D.i l.I,D.i m.I,D.i n.I,D.i o.I,D.l p.L,D.l q.L,D.i (r.I.toNat:Int),D.i (s.I.toNat:Int),D.l t.L,D.l u.L,D.l v.L,D.i w.I,D.i x.I,D.i y.I,D.i z.I,D.i z26.I,D.i z27.I,D.i z28.I,D.i 1,D.l z29.L,D.l [[D.i 0]]]))))) (T.leaf (Rd.out (Ex.exit 0) [D.i 0,D.l d.L,D.i e.I,D.i f.I,D.i g.I,D.i h.I,D.i i.I,D.l j.L,D.b k.B,D.i l.I,D.i m.I,D.i n.I,D.i o.I,D.l p.L,D.l q.L,D.i (r.I.toNat:Int),D.i (s.I.toNat:Int),D.l t.L,D.l u.L,D.l v.L,D.i w.I,D.i x.I,D.i y.I,D.i z.I,D.i z26.I,D.i z27.I,D.i z28.I]))):=by
 intros
 kernel_rfl
theorem xXl (a b c d e f g h i j k l m n o p q r s t u v w x y z z26 z27 z28 z29 z30 z31:D) :
 let X1:=[D.i (D.I (List.getD (List.getD z30.L c.I.toNat []) 0 default)),D.i (D.I (List.getD (List.getD z30.L c.I.toNat []) (0+1) default)),D.i (D.I (List.getD (List.getD z30.L c.I.toNat []) (0+1+1) default))];let X2:=decide (z29.I.toNat<=z31.L.length/\z29.I.toNat+1<=2 ^ 62/\(z29.I.toNat+1)*Tryz.prog.types[3].bytes<=2 ^ 47);let X3:=[K.int IntKind.i64,K.int IntKind.i64,K.int IntKind.i64];let X4:=(IntKind.i64.wrap (c.I+(1:Int)));let X5:=[[D.i (D.I (xjh X3 X1 t.L))]];(xal C xE8 29 (xaa C.P 29 8) 7 xpx (.i 2::a::b::[c,d,e,f,g,h,i,j,k,l,m,n,o,p,q,r,s,t,u,v,w,x,y,z,z26,z27,z28,z29,z30,z31])).run =
 T.run (T.ite (decide (c.I<b.I)) (T.need (decide ((0:Int)<=c.I/\c.I<(a.I.toNat:Int))) (T.need (decide (c.I.toNat<z30.L.length)) (T.ite (xjk X3 X1 t.L) (T.need X2 (T.leaf (Rd.again [D.i 2,D.i (a.I.toNat:Int),D.i b.I,D.i X4,D.l d.L,D.i e.I,D.i f.I,D.i g.I,D.i h.I,D.i i.I,D.l j.L,D.b k.B,D.i l.I,D.i m.I,D.i n.I,D.i o.I,D.l p.L,D.l q.L,D.i (r.I.toNat:Int),D.i (s.I.toNat:Int),D.l t.L,D.l u.L,D.l v.L,D.i w.I,D.i x.I,D.i y.I,D.i z.I,D.i z26.I,D.i z27.I,D.i z28.I,D.i (↑(z29.I.toNat+1):Int),D.l z30.L,D.l (List.take z29.I.toNat z31.L++List.take (List.length X5) X5)]))) (T.need X2 (T.leaf (Rd.again [D.i 2,D.i (a.I.toNat:Int),D.i b.I,D.i X4,D.l d.L,D.i e.I,D.i f.I,D.i g.I,D.i h.I,D.i i.I,D.l j.L,D.b k.B,D.i l.I,D.i m.I,D.i n.I,D.i o.I,D.l p.L,D.l q.L,D.i (r.I.toNat:Int),D.i (s.I.toNat:Int),D.l t.L,D.l u.L,D.l v.L,D.i w.I,D.i x.I,D.i y.I,D.i z.I,D.i z26.I,D.i z27.I,D.i z28.I,D.i (↑(z29.I.toNat+1):Int),D.l z30.L,D.l (List.take z29.I.toNat z31.L++List.take (List.length [[D.i 0]]) [[D.i 0]])])))))) (T.leaf (Rd.out (Ex.exit 0) [D.i 1,D.l d.L,D.i e.I,D.i f.I,D.i g.I,D.i h.I,D.i i.I,D.l j.L,D.b k.B,D.i l.I,D.i m.I,D.i n.I,D.i o.I,D.l p.L,D.l q.L,D.i (r.I.toNat:Int),D.i (s.I.toNat:Int),D.l t.L,D.l u.L,D.l v.L,D.i w.I,D.i x.I,D.i y.I,D.i z.I,D.i z26.I,D.i z27.I,D.i z28.I,D.i (z29.I.toNat:Int),D.l z31.L]))):=by
 intros
 kernel_rfl
set_option linter.unusedVariables false
set_option maxRecDepth 100000
theorem yfv (a b c d e f g h i j k l m n o p q r s t u v w x:D) :
 let X3:=xan e.L f.I g.I h.I i.I j.I k.L l.B m.I n.I o.I p.I q.L r.L/\xat e.L (List.take s.I.toNat w.L)/\xbi (List.take s.I.toNat w.L) (List.take t.I.toNat x.L);let X4:=[[D.i 4,D.i b.I,D.i (↑(e.L.length - 1):Int)]];let X5:=(↑(Int.toNat (1:Int)):Int);let X6:=((s.I.toNat:Int)=(w.L.length:Int)/\(t.I.toNat:Int)=(x.L.length:Int));let X7:=((0:Int)<=b.I/\b.I<(↑(List.length (List.take s.I.toNat w.L)):Int));let X8:=(↑(Int.toNat (xHx (1:Int) X5)):Int);let X9:=decide (s.I.toNat<=w.L.length);let X10:=decide (t.I.toNat<=x.L.length);let X1:=T.need (yes ((0:Int)<=X5/\X5<=(1:Int))) (T.need (decide (Int.toNat (d.I.toNat:Int)<=v.L.length/\Int.toNat (d.I.toNat:Int)+1<=2 ^ 62/\(Int.toNat (d.I.toNat:Int)+1)*Tryz.prog.types[64].bytes<=2 ^ 47)) (T.leaf [D.i 1,D.i (↑(Int.toNat (d.I.toNat:Int)+1):Int),D.l e.L,D.i f.I,D.i g.I,D.i h.I,D.i i.I,D.i j.I,D.l k.L,D.b l.B,D.i m.I,D.i n.I,D.i o.I,D.i p.I,D.l q.L,D.l r.L,D.i (↑(Int.toNat (s.I.toNat:Int)):Int),D.i (↑(Int.toNat (t.I.toNat:Int)):Int),D.l (xf9 [K.int IntKind.i64,K.int IntKind.i64,K.int IntKind.i64] [D.i a.I,D.i b.I,D.i c.I] (D.i (↑(Int.toNat (d.I.toNat:Int)):Int)) u.L),D.l w.L,D.l x.L,D.l (List.take (Int.toNat (d.I.toNat:Int)) v.L++List.take (List.length [[D.i a.I,D.i b.I,D.i c.I,D.i (xi1 e.L (List.take s.I.toNat w.L) g.I a.I b.I.toNat c.I.toNat),D.l (List.take (Int.toNat (1:Int)) [[D.i (xkc u.L [D.i 4,D.i b.I,D.i (↑(e.L.length - 1):Int)])]])]]) [[D.i a.I,D.i b.I,D.i c.I,D.i (xi1 e.L (List.take s.I.toNat w.L) g.I a.I b.I.toNat c.I.toNat),D.l (List.take (Int.toNat (1:Int)) [[D.i (xkc u.L [D.i 4,D.i b.I,D.i (↑(e.L.length - 1):Int)])]])]])]));let X2:=T.need (yes ((↑0:Int)=(0:Int)/\(↑0:Int)=(0:Int)/\(0:Int)=(0:Int)/\X6/\(d.I.toNat:Int)=(v.L.length:Int)/\v.L.length<=1000)) (T.need (decide (Int.toNat (d.I.toNat:Int)<=v.L.length/\Int.toNat (d.I.toNat:Int)+1<=2 ^ 62/\(Int.toNat (d.I.toNat:Int)+1)*Tryz.prog.types[64].bytes<=2 ^ 47)) (T.leaf [D.i 1,D.i (↑(Int.toNat (d.I.toNat:Int)+1):Int),D.l e.L,D.i f.I,D.i g.I,D.i h.I,D.i i.I,D.i j.I,D.l k.L,D.b l.B,D.i m.I,D.i n.I,D.i o.I,D.i p.I,D.l q.L,D.l r.L,D.i (↑(Int.toNat (s.I.toNat:Int)):Int),D.i (↑(Int.toNat (t.I.toNat:Int)):Int),D.l (xf9 [K.int IntKind.i64,K.int IntKind.i64,K.int IntKind.i64] [D.i a.I,D.i b.I,D.i c.I] (D.i (↑(Int.toNat (d.I.toNat:Int)):Int)) u.L),D.l w.L,D.l x.L,D.l (List.take (Int.toNat (d.I.toNat:Int)) v.L++List.take (List.length [[D.i a.I,D.i b.I,D.i c.I,D.i (xi1 e.L (List.take s.I.toNat w.L) g.I a.I b.I.toNat c.I.toNat),D.l []]]) [[D.i a.I,D.i b.I,D.i c.I,D.i (xi1 e.L (List.take s.I.toNat w.L) g.I a.I b.I.toNat c.I.toNat),D.l []]])]));(xh2 C xvm 29 xNf [a,b,c,d,e,f,g,h,i,j,k,l,m,n,o,p,q,r,s,t,u,v,w,x]).run =
 T.run (T.need X9 (T.need X10 (T.need (yes (X3/\((1:Int)<=a.I/\a.I<=(7:Int))/\X7/\(0:Int)<=c.I/\c.I<(e.L.length:Int))) (T.ite (!xc7 e.L (List.take s.I.toNat w.L) g.I a.I b.I.toNat c.I.toNat) (T.leaf [D.i 0,D.i (d.I.toNat:Int),D.l e.L,D.i f.I,D.i g.I,D.i h.I,D.i i.I,D.i j.I,D.l k.L,D.b l.B,D.i m.I,D.i n.I,D.i o.I,D.i p.I,D.l q.L,D.l r.L,D.i (s.I.toNat:Int),D.i (t.I.toNat:Int),D.l u.L,D.l v.L,D.l w.L,D.l x.L]) (T.need X9 (T.need X10 (T.need (yes (X3/\(a.I=(4:Int)\/a.I=(7:Int))/\X7/\(0:Int)<=c.I/\c.I<(e.L.length:Int))) (T.ite (decide (a.I=(7:Int)/\(0:Int)<xbc e.L (List.take s.I.toNat w.L) g.I b.I.toNat)) (T.ite (a.I == (3:Int)) (T.need (yes ((↑(0+1):Int)=(1:Int)/\X8=(1:Int)/\X8=(1:Int)/\(0:Int)=(0:Int)/\X6/\(d.I.toNat:Int)=(v.L.length:Int)/\v.L.length<=1000/\X4=X4)) X1) (T.need (yes ((↑(0+1):Int)=(1:Int)/\X5=(1:Int)/\X5=(1:Int)/\(0:Int)=(0:Int)/\X6/\(d.I.toNat:Int)=(v.L.length:Int)/\v.L.length<=1000/\X4=X4)) X1)) (T.ite (a.I == (3:Int)) X2 X2))))))))):=by
 intros
 kernel_rfl
theorem xQl (a b c d e f g h i j k l m n o p q r s t u v w x y z z26 z27 z28 z29:D):(xal C xvm 29 (xaa C.P 29 8) 8 xld (.i 0::[a,b,c,d,e,f,g,h,i,j,k,l,m,n,o,p,q,r,s,t,u,v,w,x,y,z,z26,z27,z28,z29])).run =
 T.run (T.ite (decide (b.I<a.I)) T.fail (T.leaf (Rd.out (Ex.exit 0) [D.i 0,D.i (c.I.toNat:Int),D.l d.L,D.i e.I,D.i f.I,D.i g.I,D.i h.I,D.i i.I,D.l j.L,D.b k.B,D.i l.I,D.i m.I,D.i n.I,D.i o.I,D.l p.L,D.l q.L,D.i (r.I.toNat:Int),D.i (s.I.toNat:Int),D.l t.L,D.l u.L,D.l v.L,D.l w.L,D.i x.I,D.i y.I,D.i z.I,D.i z26.I,D.i z27.I,D.i z28.I,D.i z29.I]))):=by kernel_rfl
theorem xQk (a b c d e f g h i j k l m n o p q r s t u v w x y z z26 z27 z28 z29 z30 z31:D) :
 let X1:=[D.i (D.I (List.getD (List.getD z31.L c.I.toNat []) 0 default)),D.i (D.I (List.getD (List.getD z31.L c.I.toNat []) (0+1) default)),D.i (D.I (List.getD (List.getD z31.L c.I.toNat []) (0+1+1) default))];let X2:=[K.int IntKind.i64,K.int IntKind.i64,K.int IntKind.i64];let X3:=(IntKind.i64.wrap (c.I+(1:Int)));(xal C xvm 29 (xaa C.P 29 8) 8 xld (.i 1::a::b::[c,d,e,f,g,h,i,j,k,l,m,n,o,p,q,r,s,t,u,v,w,x,y,z,z26,z27,z28,z29,z30,z31])).run =
 T.run (T.ite (decide (c.I<b.I)) (T.need (decide ((0:Int)<=c.I/\c.I<(a.I.toNat:Int))) (T.need (decide (c.I.toNat<z31.L.length)) (T.ite (xjk X2 X1 u.L) (T.leaf (Rd.again [D.i 2,D.i (a.I.toNat:Int),D.i b.I,D.i X3,D.i (d.I.toNat:Int),D.l e.L,D.i f.I,D.i g.I,D.i h.I,D.i i.I,D.i j.I,D.l k.L,D.b l.B,D.i m.I,D.i n.I,D.i o.I,D.i p.I,D.l q.L,D.l r.L,D.i (s.I.toNat:Int),D.i (t.I.toNat:Int),D.l u.L,D.l v.L,D.l w.L,D.l x.L,D.i y.I,D.i z.I,D.i z26.I,D.i z27.I,D.i z28.I,D.i z29.I,D.i z30.I,D.i 1,D.l z31.L,D.l [[D.i (D.I (xjh X2 X1 u.L))]]])) (T.leaf (Rd.again [D.i 2,D.i (a.I.toNat:Int),D.i b.I,D.i X3,D.i (d.I.toNat:Int),D.l e.L,D.i f.I,D.i g.I,D.i h.I,D.i i.I,D.i j.I,D.l k.L,D.b l.B,D.i m.I,D.i n.I,D.i o.I,D.i p.I,D.l q.L,D.l r.L,D.i (s.I.toNat:Int),D.i (t.I.toNat:Int),D.l u.L,D.l v.L,D.l w.L,D.l x.L,D.i y.I,D.i z.I,D.i z26.I,D.i z27.I,D.i z28.I,D.i z29.I,D.i z30.I,D.i 1,D.l z31.L,D.l [[D.i 0]]]))))) (T.leaf (Rd.out (Ex.exit 0) [D.i 0,D.i (d.I.toNat:Int),D.l e.L,D.i f.I,D.i g.I,D.i h.I,D.i i.I,D.i j.I,D.l k.L,D.b l.B,D.i m.I,D.i n.I,D.i o.I,D.i p.I,D.l q.L,D.l r.L,D.i (s.I.toNat:Int),D.i (t.I.toNat:Int),D.l u.L,D.l v.L,D.l w.L,D.l x.L,D.i y.I,D.i z.I,D.i z26.I,D.i z27.I,D.i z28.I,D.i z29.I,D.i z30.I]))):=by
 intros
 kernel_rfl
theorem xQj (a b c d e f g h i j k l m n o p q r s t u v w x y z z26 z27 z28 z29 z30 z31 z32 z33:D) :
 let X1:=[D.i (D.I (List.getD (List.getD z32.L c.I.toNat []) 0 default)),D.i (D.I (List.getD (List.getD z32.L c.I.toNat []) (0+1) default)),D.i (D.I (List.getD (List.getD z32.L c.I.toNat []) (0+1+1) default))];let X2:=decide (z31.I.toNat<=z33.L.length/\z31.I.toNat+1<=2 ^ 62/\(z31.I.toNat+1)*Tryz.prog.types[3].bytes<=2 ^ 47);let X3:=[K.int IntKind.i64,K.int IntKind.i64,K.int IntKind.i64];let X4:=(IntKind.i64.wrap (c.I+(1:Int)));let X5:=[[D.i (D.I (xjh X3 X1 u.L))]];(xal C xvm 29 (xaa C.P 29 8) 8 xld (.i 2::a::b::c::d::[e,f,g,h,i,j,k,l,m,n,o,p,q,r,s,t,u,v,w,x,y,z,z26,z27,z28,z29,z30,z31,z32,z33])).run =
 T.run (T.ite (decide (c.I<b.I)) (T.need (decide ((0:Int)<=c.I/\c.I<(a.I.toNat:Int))) (T.need (decide (c.I.toNat<z32.L.length)) (T.ite (xjk X3 X1 u.L) (T.need X2 (T.leaf (Rd.again [D.i 2,D.i (a.I.toNat:Int),D.i b.I,D.i X4,D.i (d.I.toNat:Int),D.l e.L,D.i f.I,D.i g.I,D.i h.I,D.i i.I,D.i j.I,D.l k.L,D.b l.B,D.i m.I,D.i n.I,D.i o.I,D.i p.I,D.l q.L,D.l r.L,D.i (s.I.toNat:Int),D.i (t.I.toNat:Int),D.l u.L,D.l v.L,D.l w.L,D.l x.L,D.i y.I,D.i z.I,D.i z26.I,D.i z27.I,D.i z28.I,D.i z29.I,D.i z30.I,D.i (↑(z31.I.toNat+1):Int),D.l z32.L,D.l (List.take z31.I.toNat z33.L++List.take (List.length X5) X5)]))) (T.need X2 (T.leaf (Rd.again [D.i 2,D.i (a.I.toNat:Int),D.i b.I,D.i X4,D.i (d.I.toNat:Int),D.l e.L,D.i f.I,D.i g.I,D.i h.I,D.i i.I,D.i j.I,D.l k.L,D.b l.B,D.i m.I,D.i n.I,D.i o.I,D.i p.I,D.l q.L,D.l r.L,D.i (s.I.toNat:Int),D.i (t.I.toNat:Int),D.l u.L,D.l v.L,D.l w.L,D.l x.L,D.i y.I,D.i z.I,D.i z26.I,D.i z27.I,D.i z28.I,D.i z29.I,D.i z30.I,D.i (↑(z31.I.toNat+1):Int),D.l z32.L,D.l (List.take z31.I.toNat z33.L++List.take (List.length [[D.i 0]]) [[D.i 0]])])))))) (T.leaf (Rd.out (Ex.exit 0) [D.i 1,D.i (d.I.toNat:Int),D.l e.L,D.i f.I,D.i g.I,D.i h.I,D.i i.I,D.i j.I,D.l k.L,D.b l.B,D.i m.I,D.i n.I,D.i o.I,D.i p.I,D.l q.L,D.l r.L,D.i (s.I.toNat:Int),D.i (t.I.toNat:Int),D.l u.L,D.l v.L,D.l w.L,D.l x.L,D.i y.I,D.i z.I,D.i z26.I,D.i z27.I,D.i z28.I,D.i z29.I,D.i z30.I,D.i (z31.I.toNat:Int),D.l z33.L]))):=by
 intros
 kernel_rfl
set_option maxRecDepth 100000
theorem ygq (n:Nat):xbo C (n+1) 95 (mkF s95 G95):=by
 refine xbk hC (sp:=xG1) (lp:=xH0) (sw:=xGp) trivial trivial (by kernel_rfl) [] (by kernel_rfl) rfl (fun k hk=>by cases hk) fun ds rr h=>?_
 unfold G95 at h;split at h
 ·rename_i x;obtain ⟨hp,h⟩:=xab h;rw [xad] at hp;have e:fnT C (xah xG1 xH0 xGp) 95 s95 [x]=fnT C (xah xG1 xH0 xGp) 95 s95 [.i x.I]:=by kernel_rfl
  have e2:x.I=0\/x.I=1:=by omega
  rw [e,<- h];have z0:(fnT C (xah xG1 xH0 xGp) 95 s95 [.i 0]).run=(T.leaf [D.i 0]).run:=by kernel_rfl
  have z1:(fnT C (xah xG1 xH0 xGp) 95 s95 [.i 1]).run=(T.leaf [D.i 1]).run:=by kernel_rfl
  rcases e2 with e2 | e2 <;> rw [e2]
  ·exact z0
  ·exact z1
 ·cases h
theorem ybt (n:Nat):xbo C (n+2) 69 (mkF s69 G69):=by
 refine xbk hC (sp:=yas) (lp:=yc2) (sw:=xZx) ⟨ygq n,trivial⟩ trivial (by kernel_rfl) [] (by kernel_rfl) rfl (fun k hk=>by cases hk) fun ds rr h=>?_
 unfold G69 at h;split at h
 ·rename_i x;obtain ⟨hp,h⟩:=xab h;rw [xad] at hp;exact (t69 x).trans (xai hp h)
 ·cases h
theorem ybo (n:Nat):xb0 C n 1 85 (xaa C.P 85 1) (xde 1 xFn xPo):=by
 refine xbb hC (sp:=xMx) (lp:=xOc) (sw:=xMn) trivial trivial 1 [4] (by kernel_rfl) (by kernel_rfl) (fun k hk L hL=>by simp at hk;subst hk;cases hL) (by kernel_rfl) (fun ds=>ds.length*0) fun ds rr h=>?_
 unfold xPo at h;split at h
 ·rename_i x a b i r;obtain ⟨hp,h⟩:=xab h;rw [xad] at hp;refine ⟨by rw [xa9,Nat.mul_zero];omega,?_⟩;rw [show (xal C (xah xMx xOc xMn) 85 (xaa C.P 85 1) 1 xFn [x,a,b,i,r]).run=_ from ye6 x a b i r];exact xem (by omega) (xao h)
 ·cases h
theorem ybp (n:Nat):xeu C (n+1) 85 (xdm s85 G85):=by
 refine xfi hC (sp:=xMx) (lp:=xOc) (sw:=xMn) trivial trivial (by kernel_rfl) [1] (by kernel_rfl) (by kernel_rfl) (fun k hk L hL=>by simp at hk;subst hk;cases hL;exact ybo n) fun ds rr h=>?_
 unfold G85 at h;split at h
 ·rename_i x a b r;obtain ⟨hp,h⟩:=xab h;rw [xad] at hp;refine (t85 x a b r).trans ?_;obtain ⟨ha,hb⟩:=hp;rw [ha];exact xai (by rw [show IntKind.wrap .i64 (0+1)=1 from rfl];exact hb) h
 ·cases h
theorem ybu (n:Nat):xb0 C (n+1) 1 68 (xaa C.P 68 2) (xde 1 xFq xPq):=by
 refine xbb hC (sp:=xM0) (lp:=xOf) (sw:=xMq) trivial ⟨ybp n,trivial⟩ 1 [] (by kernel_rfl) rfl (fun k hk=>by cases hk) (by kernel_rfl) (fun ds=>ds.length*0) fun ds rr h=>?_
 unfold xPq at h;split at h
 ·rename_i m a b x y z r;obtain ⟨hp,h⟩:=xab h;rw [xad] at hp;obtain ⟨ha,hb,hb0,hm⟩:=hp;refine ⟨by rw [xa9,Nat.mul_zero];omega,?_⟩;rw [show (xal C (xah xM0 xOf xMq) 68 (xaa C.P 68 2) 1 xFq [m,a,b,x,y,z,r]).run=_ from ye9 m a b x y z r];exact xgl (by rw [xas (by omega) (by omega)];omega) (xbe ⟨ha,hb⟩ (xao h))
 ·cases h
theorem ygv (n:Nat):xeu C (n+2) 68 (xdm s68 G68):=by
 refine xfi hC (sp:=xM0) (lp:=xOf) (sw:=xMq) trivial ⟨ybp n,trivial⟩ (by kernel_rfl) [2] (by kernel_rfl) (by kernel_rfl) (fun k hk L hL=>by simp at hk;subst hk;cases hL;exact ybu n) fun ds rr h=>?_
 unfold G68 at h;split at h
 ·rename_i m a b x r;obtain ⟨hp,h⟩:=xab h;rw [xad] at hp;obtain ⟨ha,hb,hb0,hm⟩:=hp;exact (t68 m a b x r).trans (xai ⟨ha,hb,hb0,by omega⟩ h)
 ·cases h
theorem wu {x:Int} (h0:0<=x) (h1:x<=1):0<=IntKind.wrap .u64 x/\IntKind.wrap .u64 x<=1:=by
 have e:x=0\/x=1:=by omega
 rcases e with e | e <;> rw [e] <;> exact ⟨by decide,by decide⟩
theorem xNz (n:Nat):xeu C (n+3) 32 (xdm s32 G32):=by
 refine xfi hC (sp:=ya9) (lp:=ydj) (sw:=yae) ⟨ybt n,trivial⟩ ⟨ygv n,trivial⟩ (by kernel_rfl) [] (by kernel_rfl) rfl (fun k hk=>by cases hk) fun ds rr h=>?_
 unfold G32 at h;split at h
 ·rename_i m r;obtain ⟨hp,h⟩:=xab h;rw [xad] at hp;refine (t32 m r).trans ?_;exact xai (wu (by omega) (by omega)) (xai ⟨rfl,by omega,by omega,rfl⟩ h)
 ·cases h
theorem xUk (n:Nat):xb0 C n 0 85 (xaa C.P 85 1) (xde 0 xv3 xC3):=by
 refine xbb hC (sp:=xzh) (lp:=xz7) (sw:=xy6) trivial trivial 0 [4] (by kernel_rfl) (by kernel_rfl) (fun k hk L hL=>by simp at hk;subst hk;cases hL) (by kernel_rfl) (fun ds=>ds.length*0) fun ds rr h=>?_
 unfold xC3 at h;split at h
 ·rename_i a b i;obtain ⟨hp,h⟩:=xab h;rw [xad] at hp;refine ⟨by rw [xa9,Nat.mul_zero];omega,?_⟩;rw [show (xal C (xah xzh xz7 xy6) 85 (xaa C.P 85 1) 0 xv3 [a,b,i]).run=_ from xX0 a b i];exact xem (by omega) (xao h)
 ·cases h
theorem xRj (n:Nat):xeu C (n+1) 85 (xdm xNc xQb):=by
 refine xfi hC (sp:=xzh) (lp:=xz7) (sw:=xy6) trivial trivial (by kernel_rfl) [1] (by kernel_rfl) (by kernel_rfl) (fun k hk L hL=>by simp at hk;subst hk;cases hL;exact xUk n) fun ds rr h=>?_
 unfold xQb at h;split at h
 ·rename_i a b;obtain ⟨hp,h⟩:=xab h;rw [xad] at hp;refine (yfr a b).trans ?_;obtain ⟨ha,hb⟩:=hp;rw [ha];exact xai (by rw [show IntKind.wrap .i64 (0+1)=1 from rfl];exact hb) h
 ·cases h
theorem xUl (n:Nat):xb0 C (n+1) 0 68 (xaa C.P 68 2) (xde 0 xv4 xC4):=by
 refine xbb hC (sp:=xzi) (lp:=xz8) (sw:=xy7) trivial ⟨xRj n,trivial⟩ 0 [] (by kernel_rfl) rfl (fun k hk=>by cases hk) (by kernel_rfl) (fun ds=>ds.length*0) fun ds rr h=>?_
 unfold xC4 at h;split at h
 ·rename_i a b x y z;obtain ⟨hp,h⟩:=xab h;rw [xad] at hp;obtain ⟨ha,hb⟩:=hp;refine ⟨by rw [xa9,Nat.mul_zero];omega,?_⟩;rw [show (xal C (xah xzi xz8 xy7) 68 (xaa C.P 68 2) 0 xv4 [a,b,x,y,z]).run=_ from xX1 a b x y z];exact xgl (by rw [xas (by omega) (by omega)];omega) (xbe ⟨ha,by omega⟩ (xao h))
 ·cases h
theorem ycx (n:Nat):xeu C (n+2) 68 (xdm xNd xQc):=by
 refine xfi hC (sp:=xzi) (lp:=xz8) (sw:=xy7) trivial ⟨xRj n,trivial⟩ (by kernel_rfl) [2] (by kernel_rfl) (by kernel_rfl) (fun k hk L hL=>by simp at hk;subst hk;cases hL;exact xUl n) fun ds rr h=>?_
 unfold xQc at h;split at h
 ·rename_i a b x;obtain ⟨hp,h⟩:=xab h;rw [xad] at hp;exact (yfs a b x).trans (xai hp h)
 ·cases h
theorem xz2 (n:Nat):xeu C (n+3) 32 (xdm xFd xGh):=by
 refine xfi hC (sp:=xQx) (lp:=xRu) (sw:=xQr) ⟨ybt n,trivial⟩ ⟨ycx n,trivial⟩ (by kernel_rfl) [] (by kernel_rfl) rfl (fun k hk=>by cases hk) fun ds rr h=>?_
 unfold xGh at h;split at h
 ·refine yfu.trans ?_;exact xai (by exact ⟨by decide,by decide⟩) (xai ⟨rfl,rfl⟩ h)
 ·cases h
theorem xL3:Tryz.prog.types[64].bytes=56:=by kernel_rfl
theorem ycb (n:Nat):xb0 C (n+7) 7 29 (xaa C.P 29 8) (xde 7 xpx xPy):=by
 refine xbb hC (sp:=xB0) (lp:=xB6) (sw:=xBx) ⟨xt7 (n+2),xx2 n,trivial⟩ ⟨xhy ⟨xNz (n+4),xz2 (n+4),trivial⟩,trivial⟩ 7 [] (by kernel_rfl) rfl (fun k hk=>by cases hk) (by kernel_rfl) (fun ds=>if ds.length=29 then 0 else ((ds.getD 2 default).I - (ds.getD 3 default).I).toNat) fun ds rr h=>?_
 unfold xPy at h;split at h
 ·rename_i h0 x i l c la ea ml ll ju re mi no pe po pt ex nc nu mp cs ou kd k j kd' k' j' v;obtain ⟨hp,h⟩:=xab h;rw [xad] at hp;obtain ⟨hh,hx,hi,⟨hc,hu⟩⟩:=hp;refine ⟨by rw [xa9];show (0:Nat)<_;omega,?_⟩;rw [xar (j:=h0) (n:=0) hh (by decide),show (xal C (xah xB0 xB6 xBx) 29 (xaa C.P 29 8) 7 xpx [.i 0,x,i,l,c,la,ea,ml,ll,ju,re,mi,no,pe,po,pt,ex,nc,nu,mp,cs,ou,kd,k,j,kd',k',j',v]).run=_ from xXn x i l c la ea ml ll ju re mi no pe po pt ex nc nu mp cs ou kd k j kd' k' j' v];refine xem (by omega) (xao ?_);rw [<- h,hc,hu];rfl
 ·rename_i h0 m x i l c la ea ml ll ju re mi no pe po pt ex nc nu mp cs ou kd k j kd' k' j' v pr;obtain ⟨hp,h⟩:=xab h;rw [xad] at hp;obtain ⟨hh,hm,hx,hi,⟨hc,hu⟩,hpr⟩:=hp;refine ⟨by rw [xa9];show (x.I - i.I).toNat<_;omega,?_⟩;rw [xar (j:=h0) (n:=1) hh (by decide),show (xal C (xah xB0 xB6 xBx) 29 (xaa C.P 29 8) 7 xpx [.i 1,m,x,i,l,c,la,ea,ml,ll,ju,re,mi,no,pe,po,pt,ex,nc,nu,mp,cs,ou,kd,k,j,kd',k',j',v,pr]).run=_ from xXm m x i l c la ea ml ll ju re mi no pe po pt ex nc nu mp cs ou kd k j kd' k' j' v pr];rw [hm,hx,hi,hc,hu,hpr];refine xgl (by omega) (xac (by decide) (xac (Nat.zero_lt_succ _) (xcm (fun c=>?_) fun c=>?_)))
  ·have e:xkc mp.L [.i 4,.i k.I,.i ((l.L.length - 1:Nat):Int)]=(xjh kk3 [.i 4,.i k.I,.i ((l.L.length - 1:Nat):Int)] mp.L).I:=if_pos c;rw [e,hc,hu] at h;exact xaj ((xam ⟨rfl,rfl,rfl,rfl,⟨by trivial,by trivial⟩⟩).trans h) (show (1 - 1:Int).toNat<(x.I - i.I).toNat by rw [hx,hi];decide)
  ·have e:xkc mp.L [.i 4,.i k.I,.i ((l.L.length - 1:Nat):Int)]=0:=if_neg (fun h=>by rw [show xjk kk3 [.i 4,.i k.I,.i ((l.L.length - 1:Nat):Int)] mp.L=false from c] at h;cases h);rw [e,hc,hu] at h;exact xaj ((xam ⟨rfl,rfl,rfl,rfl,⟨by trivial,by trivial⟩⟩).trans h) (show (1 - 1:Int).toNat<(x.I - i.I).toNat by rw [hx,hi];decide)
 ·rename_i h0 m x i l c la ea ml ll ju re mi no pe po pt ex nc nu mp cs ou kd k j kd' k' j' v nf pr fr;obtain ⟨hp,h⟩:=xab h;rw [xad] at hp;obtain ⟨hh,hx,hi,hf,⟨hc,hu⟩⟩:=hp;refine ⟨by rw [xa9];show (x.I - i.I).toNat<_;omega,?_⟩;rw [xar (j:=h0) (n:=2) hh (by decide),show (xal C (xah xB0 xB6 xBx) 29 (xaa C.P 29 8) 7 xpx [.i 2,m,x,i,l,c,la,ea,ml,ll,ju,re,mi,no,pe,po,pt,ex,nc,nu,mp,cs,ou,kd,k,j,kd',k',j',v,nf,pr,fr]).run=_ from xXl m x i l c la ea ml ll ju re mi no pe po pt ex nc nu mp cs ou kd k j kd' k' j' v nf pr fr];refine xem (by omega) (xao ?_);rw [<- h,hc,hu,hf];rfl
 ·cases h
theorem xB3 (n:Nat):xeu C (n+8) 29 (xdm s29 G29):=by
 refine xfi hC (sp:=xB0) (lp:=xB6) (sw:=xBx) ⟨xt7 (n+2),xx2 n,trivial⟩ ⟨xhy ⟨xNz (n+4),xz2 (n+4),trivial⟩,trivial⟩ (by kernel_rfl) [8] (by kernel_rfl) (by kernel_rfl) (fun k hk L hL=>by simp at hk;subst hk;cases hL;exact ycb n) fun ds rr h=>?_
 unfold G29 at h;split at h
 ·rename_i kd k j l c la ea ml ll ju re mi no pe po pt ex nc nu mp cs ou;obtain ⟨hp,h⟩:=xab h;rw [xad] at hp;obtain ⟨hev,hkd,hk,hj,⟨hc,hu⟩⟩:=hp;refine (t29 kd k j l c la ea ml ll ju re mi no pe po pt ex nc nu mp cs ou).trans ?_;rw [<- h];simp only [hc,hu,Int.toNat_natCast,List.take_length];refine xau (by omega) (xau (by omega) (xai ⟨hev,hkd,hk,hj⟩ ?_));by_cases hv:xc7 l.L cs.L la.I kd.I k.I.toNat j.I.toNat=true
  ·have hkd4:kd.I=4\/kd.I=7:=by
    unfold xc7 at hv;rw [Bool.or_eq_true,decide_eq_true_eq,decide_eq_true_eq] at hv;rcases hv with hv | hv
    ·exact .inr hv.1
    ·exact .inl hv.1
   have h3:(kd.I == 3)=false:=by rcases hkd4 with e | e <;> rw [e] <;> rfl
   rw [xa5 (c:=xc7 _ _ _ _ _ _),if_pos hv];refine xv8 hv (xau (by omega) (xau (by omega) (xai ⟨hev,hkd4,hk,hj⟩ (xdk (fun c=>?_) fun c=>?_))))
   ·have ef:xm5 l.L cs.L la.I mp.L kd.I k.I=[[.i (xkc mp.L [.i 4,.i k.I,.i ((l.L.length - 1:Nat):Int)])]]:=if_pos c;refine xaq h3 (xai ⟨by trivial,by trivial,by trivial,by trivial,⟨by trivial,by trivial⟩,by trivial⟩ (xai ⟨by decide,by decide⟩ (by unfold xmi;rw [ef])))
   ·have ef:xm5 l.L cs.L la.I mp.L kd.I k.I=[]:=if_neg c;refine xaq h3 (xai ⟨by trivial,by trivial,by trivial,⟨by trivial,by trivial⟩⟩ (by unfold xmi;rw [ef]))
  ·have hv:xc7 l.L cs.L la.I kd.I k.I.toNat j.I.toNat=false:=by simpa using hv
   rw [xa5 (c:=xc7 _ _ _ _ _ _),hv];exact xLs rfl rfl
 ·cases h
theorem xUm (n:Nat):xb0 C (n+7) 8 29 (xaa C.P 29 8) (xde 8 xld xC5):=by
 refine xbb hC (sp:=xqx) (lp:=xq5) (sw:=xqs) ⟨xt7 (n+2),xx2 n,trivial⟩ ⟨xhy ⟨xNz (n+4),xz2 (n+4),trivial⟩,trivial⟩ 8 [] (by kernel_rfl) rfl (fun k hk=>by cases hk) (by kernel_rfl) (fun ds=>if ds.length=31 then 0 else ((ds.getD 2 default).I - (ds.getD 3 default).I).toNat) fun ds rr h=>?_
 unfold xC5 at h;split at h
 ·rename_i h0 x i nO l c la ea ml ll ju re mi no pe po pt ex nc nu mp O cs ou kd k j kd' k' j' v;obtain ⟨hp,h⟩:=xab h;rw [xad] at hp;obtain ⟨hh,hx,hi,⟨hc,hu⟩,hO,hb⟩:=hp;refine ⟨by rw [xa9];show (0:Nat)<_;omega,?_⟩;rw [xar (j:=h0) (n:=0) hh (by decide),show (xal C (xah xqx xq5 xqs) 29 (xaa C.P 29 8) 8 xld [.i 0,x,i,nO,l,c,la,ea,ml,ll,ju,re,mi,no,pe,po,pt,ex,nc,nu,mp,O,cs,ou,kd,k,j,kd',k',j',v]).run=_ from xQl x i nO l c la ea ml ll ju re mi no pe po pt ex nc nu mp O cs ou kd k j kd' k' j' v];refine xem (by omega) (xao ?_);rw [<- h,hc,hu,hO];rfl
 ·rename_i h0 m x i nO l c la ea ml ll ju re mi no pe po pt ex nc nu mp O cs ou kd k j kd' k' j' v pr;obtain ⟨hp,h⟩:=xab h;rw [xad] at hp;obtain ⟨hh,hm,hx,hi,⟨hc,hu⟩,hO,hb,hpr⟩:=hp;refine ⟨by rw [xa9];show (x.I - i.I).toNat<_;omega,?_⟩;rw [xar (j:=h0) (n:=1) hh (by decide),show (xal C (xah xqx xq5 xqs) 29 (xaa C.P 29 8) 8 xld [.i 1,m,x,i,nO,l,c,la,ea,ml,ll,ju,re,mi,no,pe,po,pt,ex,nc,nu,mp,O,cs,ou,kd,k,j,kd',k',j',v,pr]).run=_ from xQk m x i nO l c la ea ml ll ju re mi no pe po pt ex nc nu mp O cs ou kd k j kd' k' j' v pr];rw [hm,hx,hi,hc,hu,hO,hpr];refine xgl (by omega) (xac (by decide) (xac (Nat.zero_lt_succ _) (xcm (fun c=>?_) fun c=>?_)))
  ·have e:xkc mp.L [.i 4,.i k.I,.i ((l.L.length - 1:Nat):Int)]=(xjh kk3 [.i 4,.i k.I,.i ((l.L.length - 1:Nat):Int)] mp.L).I:=if_pos c;rw [e,hc,hu,hO] at h;exact xaj ((xam ⟨rfl,rfl,rfl,rfl,⟨by trivial,by trivial⟩,rfl,hb⟩).trans h) (show (1 - 1:Int).toNat<(x.I - i.I).toNat by rw [hx,hi];decide)
  ·have e:xkc mp.L [.i 4,.i k.I,.i ((l.L.length - 1:Nat):Int)]=0:=if_neg (fun h=>by rw [show xjk kk3 [.i 4,.i k.I,.i ((l.L.length - 1:Nat):Int)] mp.L=false from c] at h;cases h);rw [e,hc,hu,hO] at h;exact xaj ((xam ⟨rfl,rfl,rfl,rfl,⟨by trivial,by trivial⟩,rfl,hb⟩).trans h) (show (1 - 1:Int).toNat<(x.I - i.I).toNat by rw [hx,hi];decide)
 ·rename_i h0 m x i nO l c la ea ml ll ju re mi no pe po pt ex nc nu mp O cs ou kd k j kd' k' j' v nf pr fr;obtain ⟨hp,h⟩:=xab h;rw [xad] at hp;obtain ⟨hh,hx,hi,hf,⟨hc,hu⟩,hO,hb⟩:=hp;refine ⟨by rw [xa9];show (x.I - i.I).toNat<_;omega,?_⟩;rw [xar (j:=h0) (n:=2) hh (by decide),show (xal C (xah xqx xq5 xqs) 29 (xaa C.P 29 8) 8 xld [.i 2,m,x,i,nO,l,c,la,ea,ml,ll,ju,re,mi,no,pe,po,pt,ex,nc,nu,mp,O,cs,ou,kd,k,j,kd',k',j',v,nf,pr,fr]).run=_ from xQj m x i nO l c la ea ml ll ju re mi no pe po pt ex nc nu mp O cs ou kd k j kd' k' j' v nf pr fr];refine xem (by omega) (xao ?_);rw [<- h,hc,hu,hf,hO];rfl
 ·cases h
theorem xq1 (n:Nat):xeu C (n+8) 29 (xdm xNf xQe):=by
 refine xfi hC (sp:=xqx) (lp:=xq5) (sw:=xqs) ⟨xt7 (n+2),xx2 n,trivial⟩ ⟨xhy ⟨xNz (n+4),xz2 (n+4),trivial⟩,trivial⟩ (by kernel_rfl) [8] (by kernel_rfl) (by kernel_rfl) (fun k hk L hL=>by simp at hk;subst hk;cases hL;exact xUm n) fun ds rr h=>?_
 unfold xQe at h;split at h
 ·rename_i kd k j nO l c la ea ml ll ju re mi no pe po pt ex nc nu mp O cs ou;obtain ⟨hp,h⟩:=xab h;rw [xad] at hp;obtain ⟨hev,hkd,hk,hj,⟨hc,hu⟩,hO,hb⟩:=hp;refine (yfv kd k j nO l c la ea ml ll ju re mi no pe po pt ex nc nu mp O cs ou).trans ?_;rw [<- h];simp only [hc,hu,hO,Int.toNat_natCast,List.take_length];refine xau (by omega) (xau (by omega) (xai ⟨hev,hkd,hk,hj⟩ ?_));by_cases hv:xc7 l.L cs.L la.I kd.I k.I.toNat j.I.toNat=true
  ·have hkd4:kd.I=4\/kd.I=7:=by
    unfold xc7 at hv;rw [Bool.or_eq_true,decide_eq_true_eq,decide_eq_true_eq] at hv;rcases hv with hv | hv
    ·exact .inr hv.1
    ·exact .inl hv.1
   have h3:(kd.I == 3)=false:=by rcases hkd4 with e | e <;> rw [e] <;> rfl
   rw [xa5 (c:=xc7 _ _ _ _ _ _),if_pos hv];refine xv8 hv (xau (by omega) (xau (by omega) (xai ⟨hev,hkd4,hk,hj⟩ (xdk (fun c=>?_) fun c=>?_))))
   ·have ef:xm5 l.L cs.L la.I mp.L kd.I k.I=[[.i (xkc mp.L [.i 4,.i k.I,.i ((l.L.length - 1:Nat):Int)])]]:=if_pos c;refine xaq h3 (xai ⟨by trivial,by trivial,by trivial,by trivial,⟨by trivial,by trivial⟩,by trivial,hb,by trivial⟩ (xai ⟨by decide,by decide⟩ (xau (by rw [xL3];omega) (by unfold xmi;rw [ef];rfl))))
   ·have ef:xm5 l.L cs.L la.I mp.L kd.I k.I=[]:=if_neg c;refine xaq h3 (xai ⟨by trivial,by trivial,by trivial,⟨by trivial,by trivial⟩,by trivial,hb⟩ (xau (by rw [xL3];omega) (by unfold xmi;rw [ef])))
  ·have hv:xc7 l.L cs.L la.I kd.I k.I.toNat j.I.toNat=false:=by simpa using hv
   rw [xa5 (c:=xc7 _ _ _ _ _ _),hv];exact xLs rfl rfl
 ·cases h
def s12:SigW:=⟨[aPl,.sl 0 3],[bCs],[(.tup [.nils,kIn],[bCs]),(.tup [.sl 1 5,kIn],[bCs,bTs])]⟩
def xv2:LSig:=xcu [1,8,10,28,29] [(71,[(1,.sl 0 3),(8,.ptr 1 1 0 0),(10,.fn 29 [] [.ptr 2 1 0 0,.ptr 3 1 0 0,.ptr 1 1 0 0]),(28,kIn),(29,kIn)],[bCs,.box [.nils],.box [.ptr 4 16 0 0],.box [.mp 5],.box (pPl++[.sl 0 3,.sl 6 1]),bMp,bRo]),(71,[(1,.sl 0 3),(8,.ptr 1 1 0 0),(10,.fn 29 [] [.ptr 2 1 0 0,.ptr 3 1 0 0,.ptr 1 1 0 0]),(28,kIn),(29,kIn)],[bCs,.box [.sl 4 5],.box [.ptr 5 16 0 0],.box [.mp 6],bTs,.box (pPl++[.sl 0 3,.sl 7 1]),bMp,bRo])] [(.exit 0,[1,8,10],[(71,[(1,.sl 0 3),(8,.ptr 1 1 0 0),(10,.fn 29 [] [.ptr 2 1 0 0,.ptr 3 1 0 0,.ptr 1 1 0 0])],[bCs,.box [.nils],.box [.ptr 4 16 0 0],.box [.mp 5],.box (pPl++[.sl 0 3,.sl 6 1]),bMp,bRo]),(71,[(1,.sl 0 3),(8,.ptr 1 1 0 0),(10,.fn 29 [] [.ptr 2 1 0 0,.ptr 3 1 0 0,.ptr 1 1 0 0])],[bCs,.box [.sl 4 5],.box [.ptr 5 16 0 0],.box [.mp 6],bTs,.box (pPl++[.sl 0 3,.sl 7 1]),bMp,bRo])])]
def xre:LSig:=xcu [1,8,10,11,28,29,33,34] [(71,[(1,.sl 0 3),(8,.ptr 1 1 0 0),(10,.fn 29 [] [.ptr 2 1 0 0,.ptr 3 1 0 0,.ptr 1 1 0 0]),(11,kIn),(28,kIn),(29,kIn),(33,kIn),(34,kIn)],[bCs,.box [.nils],.box [.ptr 4 16 0 0],.box [.mp 5],.box (pPl++[.sl 0 3,.sl 6 1]),bMp,bRo]),(71,[(1,.sl 0 3),(8,.ptr 1 1 0 0),(10,.fn 29 [] [.ptr 2 1 0 0,.ptr 3 1 0 0,.ptr 1 1 0 0]),(11,kIn),(28,kIn),(29,kIn),(33,kIn),(34,kIn)],[bCs,.box [.sl 4 5],.box [.ptr 5 16 0 0],.box [.mp 6],bTs,.box (pPl++[.sl 0 3,.sl 7 1]),bMp,bRo])] [(.exit 2,[1,8,10,11,28,29],[(71,[(1,.sl 0 3),(8,.ptr 1 1 0 0),(10,.fn 29 [] [.ptr 2 1 0 0,.ptr 3 1 0 0,.ptr 1 1 0 0]),(11,kIn),(28,kIn),(29,kIn)],[bCs,.box [.nils],.box [.ptr 4 16 0 0],.box [.mp 5],.box (pPl++[.sl 0 3,.sl 6 1]),bMp,bRo]),(71,[(1,.sl 0 3),(8,.ptr 1 1 0 0),(10,.fn 29 [] [.ptr 2 1 0 0,.ptr 3 1 0 0,.ptr 1 1 0 0]),(11,kIn),(28,kIn),(29,kIn)],[bCs,.box [.sl 4 5],.box [.ptr 5 16 0 0],.box [.mp 6],bTs,.box (pPl++[.sl 0 3,.sl 7 1]),bMp,bRo])])]
def xrd:LSig:=xcu [1,8,10,11,28,29,44,45] [(71,[(1,.sl 0 3),(8,.ptr 1 1 0 0),(10,.fn 29 [] [.ptr 2 1 0 0,.ptr 3 1 0 0,.ptr 1 1 0 0]),(11,kIn),(28,kIn),(29,kIn),(44,kIn),(45,kIn)],[bCs,.box [.nils],.box [.ptr 4 16 0 0],.box [.mp 5],.box (pPl++[.sl 0 3,.sl 6 1]),bMp,bRo]),(71,[(1,.sl 0 3),(8,.ptr 1 1 0 0),(10,.fn 29 [] [.ptr 2 1 0 0,.ptr 3 1 0 0,.ptr 1 1 0 0]),(11,kIn),(28,kIn),(29,kIn),(44,kIn),(45,kIn)],[bCs,.box [.sl 4 5],.box [.ptr 5 16 0 0],.box [.mp 6],bTs,.box (pPl++[.sl 0 3,.sl 7 1]),bMp,bRo])] [(.exit 4,[1,8,10,28,29],[(71,[(1,.sl 0 3),(8,.ptr 1 1 0 0),(10,.fn 29 [] [.ptr 2 1 0 0,.ptr 3 1 0 0,.ptr 1 1 0 0]),(28,kIn),(29,kIn)],[bCs,.box [.nils],.box [.ptr 4 16 0 0],.box [.mp 5],.box (pPl++[.sl 0 3,.sl 6 1]),bMp,bRo]),(71,[(1,.sl 0 3),(8,.ptr 1 1 0 0),(10,.fn 29 [] [.ptr 2 1 0 0,.ptr 3 1 0 0,.ptr 1 1 0 0]),(28,kIn),(29,kIn)],[bCs,.box [.sl 4 5],.box [.ptr 5 16 0 0],.box [.mp 6],bTs,.box (pPl++[.sl 0 3,.sl 7 1]),bMp,bRo])])]
def xrc:LSig:=xcu [1,8,10,11,13,14,28,29,44,45] [(71,[(1,.sl 0 3),(8,.ptr 1 1 0 0),(10,.fn 29 [] [.ptr 2 1 0 0,.ptr 3 1 0 0,.ptr 1 1 0 0]),(11,kIn),(13,kIn),(14,kIn),(28,kIn),(29,kIn),(44,kIn),(45,kIn)],[bCs,.box [.nils],.box [.ptr 4 16 0 0],.box [.mp 5],.box (pPl++[.sl 0 3,.sl 6 1]),bMp,bRo]),(71,[(1,.sl 0 3),(8,.ptr 1 1 0 0),(10,.fn 29 [] [.ptr 2 1 0 0,.ptr 3 1 0 0,.ptr 1 1 0 0]),(11,kIn),(13,kIn),(14,kIn),(28,kIn),(29,kIn),(44,kIn),(45,kIn)],[bCs,.box [.sl 4 5],.box [.ptr 5 16 0 0],.box [.mp 6],bTs,.box (pPl++[.sl 0 3,.sl 7 1]),bMp,bRo])] [(.exit 6,[1,8,10,11,28,29,44,45],[(71,[(1,.sl 0 3),(8,.ptr 1 1 0 0),(10,.fn 29 [] [.ptr 2 1 0 0,.ptr 3 1 0 0,.ptr 1 1 0 0]),(11,kIn),(28,kIn),(29,kIn),(44,kIn),(45,kIn)],[bCs,.box [.nils],.box [.ptr 4 16 0 0],.box [.mp 5],.box (pPl++[.sl 0 3,.sl 6 1]),bMp,bRo]),(71,[(1,.sl 0 3),(8,.ptr 1 1 0 0),(10,.fn 29 [] [.ptr 2 1 0 0,.ptr 3 1 0 0,.ptr 1 1 0 0]),(11,kIn),(28,kIn),(29,kIn),(44,kIn),(45,kIn)],[bCs,.box [.sl 4 5],.box [.ptr 5 16 0 0],.box [.mp 6],bTs,.box (pPl++[.sl 0 3,.sl 7 1]),bMp,bRo])])]
def xrb:LSig:=xcu [8,10,61,62] [(71,[(8,.ptr 1 1 0 0),(10,.fn 29 [] [.ptr 2 1 0 0,.ptr 3 1 0 0,.ptr 1 1 0 0]),(61,kIn),(62,kIn)],[bCs,.box [.nils],.box [.ptr 4 16 0 0],.box [.mp 5],.box (pPl++[.sl 0 3,.sl 6 1]),bMp,bRo]),(71,[(8,.ptr 1 1 0 0),(10,.fn 29 [] [.ptr 2 1 0 0,.ptr 3 1 0 0,.ptr 1 1 0 0]),(61,kIn),(62,kIn)],[bCs,.box [.sl 4 5],.box [.ptr 5 16 0 0],.box [.mp 6],bTs,.box (pPl++[.sl 0 3,.sl 7 1]),bMp,bRo])] [(.exit 8,[8],[(71,[(8,.ptr 1 1 0 0)],[bCs,.box [.nils]]),(71,[(8,.ptr 1 1 0 0)],[bCs,.box [.sl 2 5],bTs])])]
def s33:Sig:=⟨[.eptr (pPl++[kCs,kRo]),kTs,kIn],[(kBo,[])]⟩
def xq8:LSig:=xcu [1,2,7,8,11,69,70,71] [(140,[(1,kTs),(2,kIn),(7,.ptr 0 5 0 0),(8,.ptr 1 3 0 0),(11,.mp 2),(69,.nils),(70,kIn),(71,kIn)],[.box [kIn,kIn,kIn,kIn,kRo],.box [kIn,kIn,kIn],.map true [.int .i64,.int .i64,.int .i64] .bool]),(140,[(1,kTs),(2,kIn),(7,.ptr 0 5 0 0),(8,.ptr 1 3 0 0),(11,.mp 2),(69,.sl 3 3),(70,kIn),(71,kIn)],[.box [kIn,kIn,kIn,kIn,kRo],.box [kIn,kIn,kIn],.map true [.int .i64,.int .i64,.int .i64] .bool,bKs])] [(.exit 0,[1,2,7,8,11],[(140,[(1,kTs),(2,kIn),(7,.ptr 0 5 0 0),(8,.ptr 1 3 0 0),(11,.mp 2)],[.box [kIn,kIn,kIn,kIn,kRo],.box [kIn,kIn,kIn],.map true [.int .i64,.int .i64,.int .i64] .bool])])]
def xAj:LSig:=xcu [1,2,7,11,91,92,93] [(140,[(1,kTs),(2,kIn),(7,.ptr 0 5 0 0),(11,.mp 1),(91,kRo),(92,kIn),(93,kIn)],[.box [kIn,kIn,kIn,kIn,kRo],.map true [.int .i64,.int .i64,.int .i64] .bool])] [(.ret,[6],[(140,[(6,kBo)],[])]),(.exit 2,[],[(140,[],[])])]
def s13:Sig:=⟨[aPl,kCs,kTs],[(kBo,[])]⟩
def xF4:LSig:=xcu [2,7,9,27,28,29] [(54,[(2,kTs),(7,.ptr 0 16 0 0),(9,.mp 1),(27,kTs),(28,kIn),(29,kIn)],[.box (pPl++[kCs,.sl 2 1]),.map true [.int .i64,.int .i64,.int .i64] .bool,bRo])] [(.ret,[6],[(54,[(6,kBo)],[])]),(.exit 0,[],[(54,[],[])])]
def s4:Sig:=⟨[.agg [kIn,kIn,kWs]],[(kBo,[])]⟩
def xOp:LSig:=xcu [1,3] [(25,[(1,.ptr 0 3 0 0),(3,kIn)],[.box [kIn,kIn,kWs]])] [(.ret,[2],[(25,[(2,kBo)],[])]),(.exit 0,[1],[(25,[(1,.ptr 0 3 0 0)],[.box [kIn,kIn,kWs]])])]
def s7:Sig:=⟨[kIn,kIn],[(.agg [kIn,kIn,kIn,kIn,.sl 0 1,kBo,kIn,kIn,kIn,kIn,.nils,.nils],[bRo])]⟩
def s22:Sig:=⟨[kIn,kIn,kIn],[(kBo,[])]⟩
def s34:Sig:=⟨[kIn,kIn,kIn],[(kBo,[])]⟩
noncomputable section
def lkF (l:List (List D)) (i:Nat):Int:=ix (l.getD i []) 0
def lkT (l:List (List D)) (i:Nat):Int:=ix (l.getD i []) 1
def lkW (l:List (List D)) (i:Nat):Int:=ix (l.getD i []) 2
def xsd (n f t w:Int):Bool:=Lite.xa0 f 0 (n - 1) && Lite.xa0 t 0 (n - 1) && Lite.xa0 w (-1000000) 1000000
def xRw (n:Int) (l:List (List D)) (i:Nat):Bool:=xsd n (lkF l i) (lkT l i) (lkW l i)
def xN9 (n:Int) (l:List (List D)):Bool:=Lite.xa0 n 1 500 && decide (l.length<=5000) && xay (xRw n l) 0 l.length
def G22 (ds:List D):T (List D):=match ds with
 | [n,a,b]=>.leaf [.b (Lite.xa0 n.I a.I b.I)]
 | _=>.fail
def G34 (ds:List D):T (List D):=match ds with
 | [n,a,b]=>.leaf [.b (Lite.xa0 n.I a.I b.I)]
 | _=>.fail
end
def ybd:SpL:=[]
def ydn:LpL:=[]
def yai:SwL:=[]
def ye1:Tab:=xah ybd ydn yai
def ya8:SpL:=[]
def ydi:LpL:=[]
def yad:SwL:=[]
def yew:Tab:=xah ya8 ydi yad
set_option linter.unusedVariables false
set_option maxRecDepth 100000
theorem t22 (a b c:D):fnT C ye1 22 s22 [a,b,c] =
 T.ite (decide (a.I>=b.I)) (T.leaf [D.b (decide (a.I<=c.I))]) (T.leaf [D.b false]):=by kernel_rfl
theorem t34 (a b c:D):fnT C yew 34 s34 [a,b,c] =
 T.ite (decide (a.I>=b.I)) (T.leaf [D.b (decide (a.I<=c.I))]) (T.leaf [D.b false]):=by kernel_rfl
theorem xx3 (n:Nat):xbo C (n+1) 22 (mkF s22 G22):=by
 refine xbk hC (sp:=ybd) (lp:=ydn) (sw:=yai) trivial trivial (by kernel_rfl) [] (by kernel_rfl) rfl (fun k hk=>by cases hk) fun ds rr h=>?_
 unfold G22 at h;split at h
 ·rename_i a b c;refine (congrArg T.run (t22 a b c)).trans ?_;rw [<- h];simp only [xa5,xd7,Lite.xa0];split <;> rename_i hc
  ·have:b.I<=a.I:=of_decide_eq_true hc;simp [this]
  ·have:¬ b.I<=a.I:=fun h=>hc (decide_eq_true h)
   simp [this]
 ·cases h
theorem xUf (n:Nat):xbo C (n+1) 34 (mkF s34 G34):=by
 refine xbk hC (sp:=ya8) (lp:=ydi) (sw:=yad) trivial trivial (by kernel_rfl) [] (by kernel_rfl) rfl (fun k hk=>by cases hk) fun ds rr h=>?_
 unfold G34 at h;split at h
 ·rename_i a b c;refine (congrArg T.run (t34 a b c)).trans ?_;rw [<- h];simp only [xa5,xd7,Lite.xa0];split <;> rename_i hc
  ·have:b.I<=a.I:=of_decide_eq_true hc;simp [this]
  ·have:¬ b.I<=a.I:=fun h=>hc (decide_eq_true h)
   simp [this]
 ·cases h
def s47:SigW:=⟨[.eptr [kIn,.k (.ro [.int .i64,.int .i64,.int .i64])],.sl 0 1],[bRo],[(.tup [.sl 1 1,kIn],[bRo,bRo])]⟩
def xFs:LSig:=xcu [0,1,6,18,19] [(76,[(0,.eptr [kIn,.k (.ro [.int .i64,.int .i64,.int .i64])]),(1,.sl 0 1),(6,.sl 1 1),(18,kIn),(19,kIn)],[bRo,bRo])] [(.exit 0,[0,1,6],[(76,[(0,.eptr [kIn,.k (.ro [.int .i64,.int .i64,.int .i64])]),(1,.sl 0 1),(6,.sl 1 1)],[bRo,bRo])])]
def xFr:LSig:=xcu [0,1,6,8,30,31] [(76,[(0,.eptr [kIn,.k (.ro [.int .i64,.int .i64,.int .i64])]),(1,.sl 0 1),(6,.sl 1 1),(8,kIn),(30,kIn),(31,kIn)],[bRo,bRo])] [(.exit 2,[6,8],[(76,[(6,.sl 1 1),(8,kIn)],[bRo,bRo])])]
def xAi:LSig:=xcu [0,1,6,8,30,31,36,37,38] [(76,[(0,.eptr [kIn,.k (.ro [.int .i64,.int .i64,.int .i64])]),(1,.sl 0 1),(6,.sl 1 1),(8,kIn),(30,kIn),(31,kIn),(36,.k (.ro [.int .i64,.int .i64,.int .i64])),(37,kIn),(38,kIn)],[bRo,bRo])] [(.exit 4,[0,1,6,8,30,31],[(76,[(0,.eptr [kIn,.k (.ro [.int .i64,.int .i64,.int .i64])]),(1,.sl 0 1),(6,.sl 1 1),(8,kIn),(30,kIn),(31,kIn)],[bRo,bRo])])]
noncomputable section
def rg (R:List (List D)) (j:Nat):Int:=ix (R.getD j []) 0
def rs (R:List (List D)) (j:Nat) (v:Int):List (List D):=R.set j [.i v]
def xPf (R:List (List D)) (M:Int):Prop:=∀ j,-M<=rg R j/\rg R j<=M
def xe2:Nat->Nat->List (List D)
 | _,0=>[]
 | i,k+1=>[.i 0,.i (i:Int),.i 0]::xe2 (i+1) k
def xfj (n:Int) (l:List (List D)):List (List D):=l++xe2 0 n.toNat
def xx5 (n:Int) (l:List (List D)):Prop:=xN9 n l=true
def xe9 (n:Int) (l:List (List D)):Prop:=1<=n/\n<=500/\l.length<=5500/\∀ i,i<l.length->(0<=lkF l i/\lkF l i<n)/\(0<=lkT l i/\lkT l i<n)/\(-1000000<=lkW l i/\lkW l i<=1000000)
abbrev RSt:=List (List D)×List (List D)×Int
def xi5 (l:List (List D)) (i:Nat) (s:RSt):RSt:=
 if rg s.1 (lkF l i).toNat+lkW l i > rg s.1 (lkT l i).toNat then (rs s.1 (lkT l i).toNat (rg s.1 (lkF l i).toNat+lkW l i),rs s.2.1 (lkT l i).toNat i,lkT l i) else s
def xhq (l:List (List D)):Nat->Nat->RSt->RSt
 | _,0,s=>s
 | i,k+1,s=>xhq l (i+1) k (xi5 l i s)
def xg1 (l:List (List D)):Nat->RSt->RSt
 | 0,s=>s
 | k+1,s=>if (xhq l 0 l.length (s.1,s.2.1,-1)).2.2<0 then xhq l 0 l.length (s.1,s.2.1,-1) else xg1 l k (xhq l 0 l.length (s.1,s.2.1,-1))
def xfp (n:Int) (l t:List (List D)):RSt:=xg1 l (n.toNat+1) (t,List.replicate n.toNat [.i (-1)],-1)
def G47 (ds:List D):T (List D):=match ds with
 | [n, l,m,t]=>.need (yes (xe9 n.I l.L/\m.I=n.I/\(t.L.length:Int)=n.I/\xPf t.L 1099511627776))
     (.leaf [.i n.I,.i (xfp n.I l.L t.L).2.2,.l (xfp n.I l.L t.L).1,.l (xfp n.I l.L t.L).2.1])
 | _=>.fail
def xPs (ds:List D):T (Ex×List D):=match ds with
 | [n, l,m,q,k,i,t,b]=>.need (yes (1<=n.I/\n.I<=500/\m.I=n.I/\q.I=n.I/\k.I=n.I/\0<=i.I/\i.I<=n.I/\b.L=List.replicate i.I.toNat [.i (-1)]++List.replicate (n.I - i.I).toNat [.i 0]))
     (.leaf (.exit 0,[.i n.I,.l l.L,.i n.I,.i n.I,.l t.L,.l (List.replicate n.I.toNat [.i (-1)])]))
 | _=>.fail
def xlr (t:List (List D)) (k:Int):Prop:=∃ M:Int,xPf t M/\M+1000000*k<=4611686018427387904
def xPr (ds:List D):T (Ex×List D):=match ds with
 | [n, l,m,q,r,k,i,t,b]=>.need (yes (xe9 n.I l.L/\m.I=n.I/\q.I=n.I/\k.I=n.I+1/\0<=i.I/\i.I<=n.I+1/\(t.L.length:Int)=n.I/\(b.L.length:Int)=n.I/\xlr t.L (l.L.length*(n.I+1 - i.I))))
     (.leaf (.exit 2,[.i n.I,.i (xg1 l.L (n.I+1 - i.I).toNat (t.L,b.L,r.I)).2.2,.l (xg1 l.L (n.I+1 - i.I).toNat (t.L,b.L,r.I)).1,.l (xg1 l.L (n.I+1 - i.I).toNat (t.L,b.L,r.I)).2.1]))
 | _=>.fail
def xJz (ds:List D):T (Ex×List D):=match ds with
 | [n, l,m,q,r,k,i,l',k',i',t,b]=>.need (yes (xe9 n.I l.L/\m.I=n.I/\q.I=n.I/\l'.L=l.L/\k'.I=l.L.length/\0<=i'.I/\i'.I<=l.L.length/\(t.L.length:Int)=n.I/\(b.L.length:Int)=n.I/\xlr t.L (l.L.length - i'.I)))
     (.leaf (.exit 4,[.i n.I,.l l.L,.i n.I,.i n.I,.i (xhq l.L i'.I.toNat (l.L.length - i'.I.toNat) (t.L,b.L,r.I)).2.2,.i k.I,.i i.I,.l (xhq l.L i'.I.toNat (l.L.length - i'.I.toNat) (t.L,b.L,r.I)).1,.l (xhq l.L i'.I.toNat (l.L.length - i'.I.toNat) (t.L,b.L,r.I)).2.1]))
 | _=>.fail
end
def xtt:SpL:=[]
def xue:LpL:=[(3,xde 1 xFs xPs),(9,xde 1 xFr xPr),(12,xde 1 xAi xJz)]
def xto:SwL:=[]
def xE6:Tab:=xah xtt xue xto
set_option linter.unusedVariables false
set_option maxRecDepth 100000
theorem t47 (a b c d:D) :
 let X1:=(xg1 b.L (Int.toNat (a.I+(1:Int) - (0:Int))) (d.L,List.replicate a.I.toNat [D.i (-1:Int)],(-1:Int)));let X2:=(↑(List.length (List.replicate a.I.toNat [D.i 0])):Int);xh2 C xE6 47 s47 [a,b,c,d] =
 T.need (decide ((0:Int)<=a.I/\a.I=a.I/\a.I<=(2:Int) ^ 40/\(↑Tryz.prog.types[3].bytes:Int)*a.I<=(2:Int) ^ 46)) (T.need (yes ((1:Int)<=a.I/\a.I<=(500:Int)/\(c.I.toNat:Int)=a.I/\X2=a.I/\X2=a.I/\(0:Int)<=(0:Int)/\(0:Int)<=a.I/\List.replicate a.I.toNat [D.i 0]=List.replicate (Int.toNat (0:Int)) [D.i (-1:Int)]++List.replicate (Int.toNat (a.I - (0:Int))) [D.i 0])) (T.need (yes (xe9 a.I b.L/\(a.I.toNat:Int)=a.I/\(a.I.toNat:Int)=a.I/\IntKind.i64.wrap (a.I+(1:Int))=a.I+(1:Int)/\(0:Int)<=(0:Int)/\(0:Int)<=a.I+(1:Int)/\(d.L.length:Int)=a.I/\(↑(List.length (List.replicate a.I.toNat [D.i (-1:Int)])):Int)=a.I/\xlr d.L ((b.L.length:Int)*(a.I+(1:Int) - (0:Int))))) (T.leaf [D.i (a.I.toNat:Int),D.i X1.snd.snd,D.l X1.fst,D.l X1.snd.fst]))):=by
 intros
 kernel_rfl
theorem yfb (a b c d e f g h:D):xal C xE6 47 (xaa C.P 47 3) 1 xFs [a,b,c,d,e,f,g,h] =
 T.ite (decide (f.I<e.I)) (T.need (decide ((0:Int)<=f.I/\f.I<(d.I.toNat:Int))) (T.need (decide (f.I.toNat<h.L.length)) (T.leaf (Rd.again [D.i a.I,D.l b.L,D.i (c.I.toNat:Int),D.i (d.I.toNat:Int),D.i e.I,D.i (IntKind.i64.wrap (f.I+(1:Int))),D.l g.L,D.l (List.set h.L f.I.toNat (xex (List.getD h.L f.I.toNat []) [D.i (-1:Int)] 0 0 (List.length [K.int IntKind.i64])))])))) (T.leaf (Rd.out (Ex.exit 0) [D.i a.I,D.l b.L,D.i (c.I.toNat:Int),D.i (d.I.toNat:Int),D.l g.L,D.l h.L])):=by kernel_rfl
theorem yfa (a b c d e f g h i:D) :
 let X1:=(xhq b.L (Int.toNat (0:Int)) (b.L.length - Int.toNat (0:Int)) (h.L,i.L,(-1:Int)));xal C xE6 47 (xaa C.P 47 9) 1 xFr [a,b,c,d,e,f,g,h,i] =
 T.ite (decide (g.I<f.I)) (T.need (yes (xe9 a.I b.L/\(c.I.toNat:Int)=a.I/\(d.I.toNat:Int)=a.I/\b.L=b.L/\(b.L.length:Int)=(b.L.length:Int)/\(0:Int)<=(0:Int)/\(0:Int)<=(b.L.length:Int)/\(h.L.length:Int)=a.I/\(i.L.length:Int)=a.I/\xlr h.L ((b.L.length:Int) - (0:Int)))) (T.ite (decide (X1.snd.snd<(0:Int))) (T.leaf (Rd.out (Ex.exit 2) [D.i (a.I.toNat:Int),D.i X1.snd.snd,D.l X1.fst,D.l X1.snd.fst])) (T.leaf (Rd.again [D.i a.I,D.l b.L,D.i (a.I.toNat:Int),D.i (a.I.toNat:Int),D.i X1.snd.snd,D.i f.I,D.i (IntKind.i64.wrap (g.I+(1:Int))),D.l X1.fst,D.l X1.snd.fst])))) (T.leaf (Rd.out (Ex.exit 2) [D.i (d.I.toNat:Int),D.i e.I,D.l h.L,D.l i.L])):=by
 intros
 kernel_rfl
theorem xZm (a b c d e f g h i j k l:D) :
 let X1:=List.getD (List.getD h.L j.I.toNat []) (0+1) default;let X2:=List.getD (List.getD h.L j.I.toNat []) 0 default;let X3:=D.I (List.getD (List.getD k.L (Int.toNat (D.I X2)) []) 0 default)+D.I (List.getD (List.getD h.L j.I.toNat []) (0+1+1) default);let X4:=(decide ((0:Int)<=D.I X1/\D.I X1<(c.I.toNat:Int)));let X5:=(IntKind.i64.wrap (j.I+(1:Int)));let X6:=decide (Int.toNat (D.I X1)<k.L.length);let X7:=List.getD k.L (Int.toNat (D.I X1)) [];let X8:=List.length [K.int IntKind.i64];xal C xE6 47 (xaa C.P 47 12) 1 xAi [a,b,c,d,e,f,g,h,i,j,k,l] =
 T.ite (decide (j.I<i.I)) (T.need (decide ((0:Int)<=j.I/\j.I<(h.L.length:Int))) (T.need (decide ((0:Int)<=D.I X2/\D.I X2<(c.I.toNat:Int))) (T.need (decide (Int.toNat (D.I X2)<k.L.length)) (T.need X4 (T.need X6 (T.ite (decide (IntKind.i64.wrap X3 > D.I (List.getD X7 0 default))) (T.need X4 (T.need X6 (T.need (decide ((0:Int)<=D.I X1/\D.I X1<(d.I.toNat:Int))) (T.need (decide (Int.toNat (D.I X1)<l.L.length)) (T.leaf (Rd.again [D.i a.I,D.l b.L,D.i (c.I.toNat:Int),D.i (d.I.toNat:Int),D.i (D.I X1),D.i f.I,D.i g.I,D.l h.L,D.i i.I,D.i X5,D.l (List.set k.L (Int.toNat (D.I X1)) (xex X7 [D.i (IntKind.i64.wrap X3)] 0 0 X8)),D.l (List.set l.L (Int.toNat (D.I X1)) (xex (List.getD l.L (Int.toNat (D.I X1)) []) [D.i j.I] 0 0 X8))])))))) (T.leaf (Rd.again [D.i a.I,D.l b.L,D.i (c.I.toNat:Int),D.i (d.I.toNat:Int),D.i e.I,D.i f.I,D.i g.I,D.l h.L,D.i i.I,D.i X5,D.l k.L,D.l l.L])))))))) (T.leaf (Rd.out (Ex.exit 4) [D.i a.I,D.l b.L,D.i (c.I.toNat:Int),D.i (d.I.toNat:Int),D.i e.I,D.i f.I,D.i g.I,D.l k.L,D.l l.L])):=by
 intros
 kernel_rfl
set_option maxRecDepth 100000
theorem xl2 (R:List (List D)) (j:Nat) (v:Int):(rs R j v).length=R.length:=by simp [rs]
theorem xkl {R:List (List D)} {j:Nat} (hj:j<R.length) (v:Int) (i:Nat):rg (rs R j v) i=if i=j then v else rg R i:=by
 unfold rg rs;simp only [List.getD_eq_getElem?_getD,List.getElem?_set];by_cases e:i=j
 ·subst e;simp [hj,ix,D.I]
 ·rw [if_neg (fun h=>e h.symm),if_neg e]
theorem xNl {R:List (List D)} {j:Nat} (hj:R.length<=j):rg R j=0:=by
 unfold rg;rw [List.getD_eq_getElem?_getD,List.getElem?_eq_none hj];rfl
theorem xHg (R:List (List D)) (j:Nat):((R.getD j []).getD 0 default).I=rg R j:=rfl
theorem xzs (R:List (List D)) (j:Nat) (v:Int):R.set j [.i v]=rs R j v:=rfl
theorem xzt {n j:Nat} {v:Int} (hj:j<n):rg (List.replicate n [.i v]) j=v:=by
 unfold rg;rw [List.getD_eq_getElem?_getD,List.getElem?_replicate,if_pos hj];rfl
theorem xAg:∀ (i k:Nat),(xe2 i k).length=k
 | _,0=>rfl
 | i,k+1=>by simp [xe2,xAg (i+1) k]
theorem xA6:∀ {i k j:Nat},j<k->(xe2 i k).getD j []=[.i 0,.i ((i+j:Nat):Int),.i 0]
 | i,k+1,0,_=>by simp [xe2]
 | i, k+1,j+1,h=>by
   have:=xA6 (i:=i+1) (k:=k) (j:=j) (by omega);simp only [xe2,List.getD_cons_succ,this];rw [show i+1+j=i+(j+1) by omega]
theorem xKt:∀ (i k:Nat) (r:List (List D)),r++[[.i 0,.i (i:Int),.i 0]]++xe2 (i+1) k=r++xe2 i (k+1):=fun i k r=>by simp [xe2]
theorem xD8 (l:List (List D)) (i:Nat) (s:RSt):(xi5 l i s).1.length=s.1.length/\(xi5 l i s).2.1.length=s.2.1.length:=by
 unfold xi5;split
 ·exact ⟨xl2 ..,xl2 ..⟩
 ·exact ⟨rfl,rfl⟩
theorem xD9 (l:List (List D)):∀ (k i:Nat) (s:RSt),(xhq l i k s).1.length=s.1.length/\(xhq l i k s).2.1.length=s.2.1.length
 | 0,_,_=>⟨rfl,rfl⟩
 | k + 1,i,s=>by
   have h1:=xD9 l k (i+1) (xi5 l i s);have h2:=xD8 l i s;exact ⟨h1.1.trans h2.1,h1.2.trans h2.2⟩
theorem xDg {n:Int} {l:List (List D)} (hl:xe9 n l) {i:Nat} (hi:i<l.length) {s:RSt} (hs:(s.1.length:Int)=n) {k:Int} (h:xlr s.1 (k+1)):xlr (xi5 l i s).1 k:=by
 obtain ⟨M,h1,h2⟩:=h;obtain ⟨h3,h4,h5⟩:=hl.2.2.2 i hi;have h0:=h1 0;refine ⟨M+1000000,fun j=>?_,by omega⟩;have hj:=h1 j;unfold xi5;split
 ·simp only;rw [xkl (by omega)];split
  ·have:=h1 (lkF l i).toNat;omega
  ·omega
 ·omega
theorem xDh {n:Int} {l:List (List D)} (hl:xe9 n l):∀ (k i:Nat),i+k<=l.length->∀ {s:RSt},(s.1.length:Int)=n->∀ {q:Int},xlr s.1 (q+k)->xlr (xhq l i k s).1 q
 | 0, _,_,s,_,q,h=>by
   have e:q+((0:Nat):Int)=q:=by omega
   rw [e] at h;exact h
 | k + 1,i,hk,s,hs,q,h=>by
   refine xDh hl k (i+1) (by omega) (by rw [(xD8 l i s).1];exact hs) (xDg hl (by omega) hs ?_);have e:q+((k+1:Nat):Int)=q+k+1:=by omega
   rw [e] at h;exact h
theorem xX9 {t:List (List D)} {k:Int} (h:xlr t k) (hk:0<=k) (j:Nat):-4611686018427387904<=rg t j/\rg t j<=4611686018427387904:=by
 obtain ⟨M,h1,h2⟩:=h;have:=h1 j;omega
theorem xLd:∀ (i k:Nat) (a b:List D),(List.replicate i a++List.replicate (k+1) b).set i a=List.replicate (i+1) a++List.replicate k b
 | 0,k,a,b=>by simp [List.replicate_succ]
 | i + 1,k,a,b=>by
   have:=xLd i k a b;rw [List.replicate_succ (n:=i),List.replicate_succ (n:=i+1),List.cons_append,List.set_cons_succ,this];rfl
theorem xYe (n:Nat):xb0 C (n+0) 1 47 (xaa C.P 47 12) (xde 1 xAi xJz):=by
 refine xbb hC (sp:=xtt) (lp:=xue) (sw:=xto) trivial trivial 1 [] (by kernel_rfl) rfl (fun k hk=>by cases hk) (by kernel_rfl) (fun ds=>((ds.getD 8 default).I - (ds.getD 9 default).I).toNat) fun ds rr h=>?_
 unfold xJz at h;split at h
 ·rename_i n l m q r k i a b c t u;obtain ⟨hp,h⟩:=xab h;rw [xad] at hp;obtain ⟨⟨g1,g2,g3,g4⟩,h2,h3,h4,h5,h6,h7,h8,h9,h10⟩:=hp;have hb:=xdg;refine ⟨by rw [xa9];simp;omega,?_⟩;rw [show xal C (xah xtt xue xto) 47 (xaa C.P 47 12) 1 xAi [n,l,m,q,r,k,i,a,b,c,t,u]=_ from xZm n l m q r k i a b c t u];obtain ⟨j,hj⟩:∃ j:Nat,c.I=j:=⟨c.I.toNat,by omega⟩;have hg:xe9 n.I l.L:=⟨g1,g2,g3,g4⟩;simp only [hj,h2,h3,h4,h5,Int.toNat_natCast,xGk,Nat.zero_add,Nat.reduceAdd] at h h6 h7 h10 ⊢;refine xa2 (fun hlt=>?_) fun hge=>xao ?_
  ·have hjl:j<l.L.length:=by omega
   obtain ⟨f1,f2,f3⟩:=g4 j hjl;have e1:((l.L.getD j []).getD 0 default).I=lkF l.L j:=rfl;have e2:((l.L.getD j []).getD 1 default).I=lkT l.L j:=rfl;have e3:((l.L.getD j []).getD 2 default).I=lkW l.L j:=rfl;have h0:=xX9 h10 (by omega) (lkF l.L j).toNat;simp only [e1,e2,e3,xHg,xzs];have w:IntKind.i64.wrap (rg t.L (lkF l.L j).toNat+lkW l.L j)=rg t.L (lkF l.L j).toNat+lkW l.L j:=xas (by omega) (by omega);rw [w,xbd (by omega)];have e4:l.L.length - j=(l.L.length - (j+1))+1:=by omega
   rw [e4] at h;simp only [xhq] at h;have hroom:xlr (xi5 l.L j (t.L,u.L,r.I)).1 ((l.L.length:Int) - ((j+1:Nat):Int)):=xDg hg hjl (s:=(t.L,u.L,r.I)) h8 (by
    have:(l.L.length:Int) - ((j+1:Nat):Int)+1=l.L.length - j:=by omega
    rw [this];exact h10)
   have hmu:((l.L.length:Int) - ((j+1:Nat):Int)).toNat<((b.I) - c.I).toNat:=by omega
   refine xac ⟨by omega,by omega⟩ (xac ⟨by omega,by omega⟩ (xac (by omega) (xac ⟨by omega,by omega⟩ (xac (by omega) (xa2 (fun hgt=>?_) fun hle=>?_)))))
   ·have hst:xi5 l.L j (t.L,u.L,r.I)=(rs t.L (lkT l.L j).toNat (rg t.L (lkF l.L j).toNat+lkW l.L j),rs u.L (lkT l.L j).toNat j,lkT l.L j):=if_pos hgt;rw [hst] at h hroom;refine xac ⟨by omega,by omega⟩ (xac (by omega) (xac ⟨by omega,by omega⟩ (xac (by omega) (xaj ((xam ⟨hg,by simp only [I_i];omega,by simp only [I_i];omega,rfl,rfl,by simp only [I_i];omega,by simp only [I_i,L_l];omega,by simp only [L_l,xl2,I_i];exact h8,by simp only [L_l,xl2,I_i];exact h9,hroom⟩).trans ?_) hmu))));simp only [L_l,I_i,Int.toNat_natCast];exact h
   ·have hst:xi5 l.L j (t.L,u.L,r.I)=(t.L,u.L,r.I):=if_neg hle;rw [hst] at h hroom;refine xaj ((xam ⟨hg,by simp only [I_i];omega,by simp only [I_i];omega,rfl,rfl,by simp only [I_i];omega,by simp only [I_i,L_l];omega,h8,h9,hroom⟩).trans ?_) hmu;simp only [L_l,I_i,Int.toNat_natCast];exact h
  ·rw [<- h];have e5:l.L.length - j=0:=by omega
   have e6:((n.I.toNat:Nat):Int)=n.I:=by omega
   simp only [e5,xhq,xd7,e6]
 ·cases h
theorem ybw (n:Nat):xb0 C (n+0) 1 47 (xaa C.P 47 9) (xde 1 xFr xPr):=by
 refine xbb hC (sp:=xtt) (lp:=xue) (sw:=xto) trivial trivial 1 [12] (by kernel_rfl) (by kernel_rfl) (fun k hk L hL=>by simp at hk;subst hk;cases hL;exact xYe n) (by kernel_rfl) (fun ds=>((ds.getD 5 default).I - (ds.getD 6 default).I).toNat) fun ds rr h=>?_
 unfold xPr at h;split at h
 ·rename_i n l m q r k i t u;obtain ⟨hp,h⟩:=xab h;rw [xad] at hp;obtain ⟨⟨g1,g2,g3,g4⟩,h2,h3,h4,h5,h6,h7,h8,h9⟩:=hp;have hb:=xdg;refine ⟨by rw [xa9];simp;omega,?_⟩;rw [show xal C (xah xtt xue xto) 47 (xaa C.P 47 9) 1 xFr [n,l,m,q,r,k,i,t,u]=_ from yfa n l m q r k i t u];obtain ⟨j,hj⟩:∃ j:Nat,i.I=j:=⟨i.I.toNat,by omega⟩;have hg:xe9 n.I l.L:=⟨g1,g2,g3,g4⟩;have e6:((n.I.toNat:Nat):Int)=n.I:=by omega
  simp only [hj,h2,h3,h4,Int.toNat_zero,Nat.sub_zero,Int.sub_zero,e6] at h h6 h9 ⊢;refine xa2 (fun hlt=>?_) fun hge=>xao ?_
  ·have e7:(n.I+1 - (j:Int)).toNat=(n.I+1 - ((j+1:Nat):Int)).toNat+1:=by omega
   rw [e7] at h;simp only [xg1] at h;have hr1:xlr t.L (l.L.length*(n.I+1 - ((j+1:Nat):Int))+(l.L.length:Int)):=by
    have:(l.L.length:Int)*(n.I+1 - ((j+1:Nat):Int))+l.L.length=l.L.length*(n.I+1 - j):=by
     rw [show n.I+1 - (j:Int)=(n.I+1 - ((j+1:Nat):Int))+1 by omega,Int.mul_add,Int.mul_one]
    rw [this];exact h9
   have hr0:xlr t.L (l.L.length:Int):=by
    obtain ⟨M,m1,m2⟩:=hr1;have h0:=m1 0;have:0<=(l.L.length:Int)*(n.I+1 - ((j+1:Nat):Int)):=Int.mul_nonneg (by omega) (by omega);exact ⟨M,m1,by rw [Int.mul_add] at m2;omega⟩
   have hr2:=xDh hg l.L.length 0 (by omega) (s:=(t.L,u.L,-1)) h7 hr1;have hl2:=xD9 l.L l.L.length 0 (t.L,u.L,-1);refine xbe ⟨hg,by trivial,by trivial,by trivial,by trivial,by omega,by omega,h7,h8,hr0⟩ (xa2 (fun hc=>xao ?_) fun hc=>?_)
   ·rw [if_pos hc] at h;exact h
   ·rw [if_neg hc] at h;rw [xbd (by omega)];refine xaj ((xam ⟨hg,by simp only [I_i],by simp only [I_i],by simp only [I_i],by simp only [I_i];omega,by simp only [I_i];omega,by simp only [L_l,I_i,hl2.1];exact h7,by simp only [L_l,I_i,hl2.2];exact h8,by simp only [L_l,I_i];exact hr2⟩).trans ?_) (show (n.I+1 - ((j+1:Nat):Int)).toNat<(k.I - i.I).toNat by omega);simp only [L_l,I_i];exact h
  ·rw [<- h];have e5:(n.I+1 - (j:Int)).toNat=0:=by omega
   simp only [e5,xg1,xd7]
 ·cases h
theorem ybx (n:Nat):xb0 C (n+0) 1 47 (xaa C.P 47 3) (xde 1 xFs xPs):=by
 refine xbb hC (sp:=xtt) (lp:=xue) (sw:=xto) trivial trivial 1 [] (by kernel_rfl) rfl (fun k hk=>by cases hk) (by kernel_rfl) (fun ds=>((ds.getD 4 default).I - (ds.getD 5 default).I).toNat) fun ds rr h=>?_
 unfold xPs at h;split at h
 ·rename_i n l m q k i t u;obtain ⟨hp,h⟩:=xab h;rw [xad] at hp;obtain ⟨h1,h2,h0,h3,h4,h5,h6,h7⟩:=hp;have hb:=xdg;refine ⟨by rw [xa9];simp;omega,?_⟩;rw [show xal C (xah xtt xue xto) 47 (xaa C.P 47 3) 1 xFs [n,l,m,q,k,i,t,u]=_ from yfb n l m q k i t u];obtain ⟨j,hj⟩:∃ j:Nat,i.I=j:=⟨i.I.toNat,by omega⟩;have e6:((n.I.toNat:Nat):Int)=n.I:=by omega
  simp only [hj,h0,h3,h4,h7,Int.toNat_natCast,xGk,e6] at h h6 ⊢;refine xa2 (fun hlt=>?_) fun hge=>xao ?_
  ·refine xac ⟨by omega,by omega⟩ (xac (by simp only [List.length_append,List.length_replicate];omega) ?_);rw [xbd (by omega)];have e7:(n.I - (j:Int)).toNat=(n.I - ((j+1:Nat):Int)).toNat+1:=by omega
   rw [e7,xLd];refine xaj ((xam ⟨h1,h2,by simp only [I_i],by simp only [I_i],by simp only [I_i],by simp only [I_i];omega,by simp only [I_i];omega,by simp only [L_l,I_i,Int.toNat_natCast]⟩).trans ?_) (show (n.I - ((j+1:Nat):Int)).toNat<(k.I - i.I).toNat by omega);rw [<- h];rfl
  ·rw [<- h];have e5:(n.I - (j:Int)).toNat=0:=by omega
   have e8:j=n.I.toNat:=by omega
   rw [e5,e8];simp only [List.replicate_zero,List.append_nil,xd7]
 ·cases h
theorem xUd (n:Nat):xeu C (n+1) 47 (xdm s47 G47):=by
 refine xfi hC (sp:=xtt) (lp:=xue) (sw:=xto) trivial trivial (by kernel_rfl) [3,9] (by kernel_rfl) (by kernel_rfl) (fun k hk L hL=>by
     simp at hk;rcases hk with rfl | rfl <;> cases hL
     ·exact ybx n
     ·exact ybw n) fun ds rr h=>?_
 unfold G47 at h;split at h
 ·rename_i n l m t;obtain ⟨hp,h⟩:=xab h;rw [xad] at hp;obtain ⟨⟨g1,g2,g3,g4⟩,h2,h3,h4⟩:=hp;refine (congrArg T.run (t47 n l m t)).trans ?_;have hg:xe9 n.I l.L:=⟨g1,g2,g3,g4⟩;have e6:((n.I.toNat:Nat):Int)=n.I:=by omega
  rw [<- h];have hroom:xlr t.L ((l.L.length:Int)*(n.I+1 - 0)):=by
   refine ⟨1099511627776,h4,?_⟩;have:(l.L.length:Int)*(n.I+1 - 0)<=5500*501:=Int.mul_le_mul (by omega) (by omega) (by omega) (by omega);omega
  have w:IntKind.i64.wrap (n.I+1)=n.I+1:=xas (by omega) (by omega);have e7:(n.I+1 - 0).toNat=n.I.toNat+1:=by omega
  simp only [Int.toNat_zero,h2,e6,w,List.length_replicate,xI9,e7];refine xau ⟨by omega,by trivial,by omega,by omega⟩ (xai ⟨g1,g2,by trivial,by trivial,by trivial,by omega,by omega,by simp⟩ (xai ⟨hg,by trivial,by trivial,by trivial,by omega,by omega,h3,by trivial,hroom⟩ ?_));rfl
 ·cases h
noncomputable section
def xg6 (n:Int):List (List D):=List.replicate n.toNat [.i 0]
def xPh (n:Int) (l b:List (List D)) (v:Int):Int:=if rg b v.toNat<0 then (l.length:Int) - n+v else rg b v.toNat
def xFf (n:Int) (l b:List (List D)) (v:Int):Int:=lkF l (xPh n l b v).toNat
def xLb (n:Int) (l b:List (List D)) (v e:Int):Nat->Nat->Nat
 | k,0=>k
 | k,f+1=>if v=e then k else xLb n l b (xFf n l b v) e (k+1) f
def yhd (n:Int) (l b:List (List D)) (v e:Int):Nat:=xLb n l b v e 0 501
def xSn (n:Int) (l b:List (List D)):Nat->Int->List (List D)
 | 0,_=>[]
 | k+1,v=>[.i (xPh n l b v)]::xSn n l b k (xFf n l b v)
def circle (n:Int) (l b:List (List D)) (v:Int):List (List D):=[.i (xPh n l b v)]::xSn n l b (yhd n l b (xFf n l b v) v) (xFf n l b v)
end
end Go.Proofs.YtgoedfonmocafaaGreat
namespace Go.Lite
structure Net where
 n : Nat
 m : Nat
 f : Nat->Nat
 t : Nat->Nat
 w : Nat->Int
structure Net.OK (E:Net):Prop where
 f : ∀ i,i<E.m->E.f i<E.n
 t : ∀ i,i<E.m->E.t i<E.n
def Net.kept (E:Net) (p:Nat->Int):Prop:=∀ i,i<E.m->p (E.f i)+E.w i<=p (E.t i)
def upd {α:Type} (x:Nat->α) (i:Nat) (v:α):Nat->α:=fun j=>if j=i then v else x j
structure Rz where
 t : Nat->Int
 b : Nat->Int
 r : Int
 lst:Nat->Nat
 lv:Nat->Nat
 c : Nat
def Net.step (E:Net) (ρ i:Nat) (s:Rz):Rz:=
 if s.t (E.f i)+E.w i > s.t (E.t i) then
  { t:=upd s.t (E.t i) (s.t (E.f i)+E.w i),b:=upd s.b (E.t i) i,r:=E.t i,lst:=upd s.lst (E.t i) (s.c+1),lv:=upd s.lv (E.t i) ρ,c:=s.c+1 }
 else s
def Net.pass (E:Net) (ρ:Nat):Nat->Nat->Rz->Rz
 | _,0,s=>s
 | i,k+1,s=>E.pass ρ (i+1) k (E.step ρ i s)
def Net.rounds (E:Net):Nat->Nat->Rz->Rz
 | _,0,s=>s
 | ρ,k+1,s=>if (E.pass ρ 0 E.m { s with r:=-1 }).r<0 then E.pass ρ 0 E.m { s with r:=-1 } else E.rounds (ρ+1) k (E.pass ρ 0 E.m { s with r:=-1 })
def Rz.start (t:Nat->Int):Rz:=⟨t,fun _=>-1,-1,fun _=>0,fun _=>0,0⟩
section
variable {E:Net}
theorem Net.step_le (ρ i:Nat) (s:Rz) (j:Nat):s.t j<=(E.step ρ i s).t j:=by
 unfold Net.step;split
 ·simp only [upd];split
  ·rename_i h1 h2;subst h2;omega
  ·exact Int.le_refl _
 ·exact Int.le_refl _
theorem Net.pass_le (ρ:Nat):∀ (k i:Nat) (s:Rz) (j:Nat),s.t j<=(E.pass ρ i k s).t j
 | 0,_,_,_=>Int.le_refl _
 | k+1,i,s,j=>Int.le_trans (Net.step_le ρ i s j) (Net.pass_le ρ k (i+1) _ j)
theorem Net.rounds_le:∀ (k ρ:Nat) (s:Rz) (j:Nat),s.t j<=(E.rounds ρ k s).t j
 | 0,_,_,_=>Int.le_refl _
 | k + 1,ρ,s,j=>by
   have h1:=Net.pass_le (E:=E) ρ E.m 0 { s with r:=-1 } j;simp only [Net.rounds];split
   ·exact h1
   ·exact Int.le_trans h1 (Net.rounds_le k (ρ+1) _ j)
theorem Net.step_ub {p:Nat->Int} (hp:E.kept p) {ρ i:Nat} (hi:i<E.m) {s:Rz} (h:∀ j,s.t j<=p j) (j:Nat):(E.step ρ i s).t j<=p j:=by
 unfold Net.step;split
 ·simp only [upd];split
  ·rename_i h2;subst h2;have:=hp i hi;have:=h (E.f i);omega
  ·exact h j
 ·exact h j
theorem Net.pass_ub {p:Nat->Int} (hp:E.kept p) {ρ:Nat}:∀ (k i:Nat),i+k<=E.m->∀ (s:Rz),(∀ j,s.t j<=p j)->∀ j,(E.pass ρ i k s).t j<=p j
 | 0,_,_,_,h=>h
 | k+1,i,hk,s,h=>Net.pass_ub hp k (i+1) (by omega) _ (Net.step_ub hp (by omega) h)
theorem Net.rounds_ub {p:Nat->Int} (hp:E.kept p):∀ (k ρ:Nat) (s:Rz),(∀ j,s.t j<=p j)->∀ j,(E.rounds ρ k s).t j<=p j
 | 0,_,_,h=>h
 | k + 1,ρ,s,h=>by
   have h1:=Net.pass_ub (ρ:=ρ) hp E.m 0 (by omega) { s with r:=-1 } h;simp only [Net.rounds];split
   ·exact h1
   ·exact Net.rounds_ub hp k (ρ+1) _ h1
theorem Net.step_r (ρ i:Nat) (s:Rz):((E.step ρ i s).r<0->E.step ρ i s=s)/\(s.r>=0->(E.step ρ i s).r>=0):=by
 unfold Net.step;split
 ·exact ⟨fun h=>by simp only at h;omega,fun _=>by simp only;omega⟩
 ·exact ⟨fun _=>rfl,fun h=>h⟩
theorem Net.pass_kept (ρ:Nat):∀ (k i:Nat) (s:Rz),(E.pass ρ i k s).r<0->E.pass ρ i k s=s/\∀ j,i<=j->j<i+k->s.t (E.f j)+E.w j<=s.t (E.t j)
 | 0,_,_,_=>⟨rfl,fun j h1 h2=>by omega⟩
 | k + 1,i,s,h=>by
   simp only [Net.pass] at h ⊢;obtain ⟨h1,h2⟩:=Net.pass_kept ρ k (i+1) _ h;rw [h1] at h ⊢;have h3:=(Net.step_r ρ i s).1 h;rw [h3] at h2 ⊢;refine ⟨rfl,fun j h4 h5=>?_⟩;by_cases hj:j=i
   ·subst hj;unfold Net.step at h3;split at h3
    ·rename_i hgt;have:=congrArg Rz.c h3;simp only at this;omega
    ·omega
   ·exact h2 j (by omega) (by omega)
theorem Net.rounds_kept:∀ (k ρ:Nat) (s:Rz),0<k->(E.rounds ρ k s).r<0->E.kept (E.rounds ρ k s).t
 | 0,_,_,h,_=>by omega
 | k + 1,ρ,s,_,h=>by
   simp only [Net.rounds] at h ⊢;split at h
   ·rename_i hr;rw [if_pos hr];obtain ⟨h1,h2⟩:=Net.pass_kept ρ E.m 0 _ hr;rw [h1];exact fun i hi=>h2 i (Nat.zero_le _) (by omega)
   ·rename_i hr;rw [if_neg hr];cases k with
    | zero=>simp only [Net.rounds] at h;exact absurd h hr
    | succ k=>exact Net.rounds_kept (k+1) (ρ+1) _ (by omega) h
structure Rz.Inv (E:Net) (s:Rz) (ρ i:Nat):Prop where
 by_:∀ v,0<=s.b v->∃ e:Nat,s.b v=e/\e<E.m/\E.t e=v/\s.t v<=s.t (E.f e)+E.w e/\((s.lst v<s.lst (E.f e)\/E.f e=v)->s.t v<s.t (E.f e)+E.w e)/\s.lv v<=s.lv (E.f e)+1
 none_:∀ v,s.b v<0->s.b v = -1/\s.lst v=0/\s.lv v=0
 lst_:∀ v,s.lst v<=s.c
 pos_:∀ v,0<=s.b v->0<s.lst v
 inj_:∀ u v,0<=s.b u->0<=s.b v->s.lst u=s.lst v->u=v
 lv_:∀ v,s.lv v<=ρ
 past_:∀ j,j<E.m->j<i->s.lv (E.f j)<ρ->s.t (E.f j)+E.w j<=s.t (E.t j)
 rest_:∀ j,j<E.m->s.lv (E.f j)+1<ρ->s.t (E.f j)+E.w j<=s.t (E.t j)
theorem Rz.start_inv (t:Nat->Int):(Rz.start t).Inv E 1 0 where
 by_ v h:=by simp only [Rz.start] at h;omega
 none_ v _:=⟨rfl,rfl,rfl⟩
 lst_ v:=Nat.le_refl _
 pos_ v h:=by simp only [Rz.start] at h;omega
 inj_ u v h:=by simp only [Rz.start] at h;omega
 lv_ v:=Nat.zero_le _
 past_ j _ h:=by omega
 rest_ j _ h:=by omega
theorem Rz.Inv.step {s:Rz} {ρ i:Nat} (I:s.Inv E ρ i) (hi:i<E.m):(E.step ρ i s).Inv E ρ (i+1):=by
 unfold Net.step;split
 ·rename_i hgt;have hlv:ρ<=s.lv (E.f i)+1:=by
   apply Classical.byContradiction;intro hn;have:=I.rest_ i hi (by omega);omega
  constructor
  ·intro v hv;by_cases e:v=E.t i
   ·subst e;refine ⟨i,by simp [upd],hi,rfl,?_,?_,?_⟩
    ·simp only [upd,if_true];split
     ·rename_i h;rw [h] at hgt ⊢;omega
     ·exact Int.le_refl _
    ·simp only [upd,if_true]
     rintro (h | h)
     ·split at h
      ·omega
      ·have:=I.lst_ (E.f i);omega
     ·rw [if_pos h,h] ; rw [h] at hgt;omega
    ·simp only [upd,if_true];split
     ·omega
     ·exact hlv
   ·simp only [upd,e,if_false] at hv ⊢;obtain ⟨e',h1,h2,h3,h4,h5,h6⟩:=I.by_ v hv;refine ⟨e',h1,h2,h3,?_,?_,?_⟩
    ·split
     ·rename_i h;rw [h] at h4;omega
     ·exact h4
    ·intro h;split at h
     ·rename_i hf;rw [if_pos hf,];rw [hf] at h4;omega
     ·rename_i hf;rw [if_neg hf];exact h5 h
    ·split
     ·have:=I.lv_ v;omega
     ·exact h6
  ·intro v hv;by_cases e:v=E.t i
   ·subst e;simp only [upd,if_true] at hv;omega
   ·simp only [upd,e,if_false] at hv ⊢;exact I.none_ v hv
  ·intro v;simp only [upd];split
   ·exact Nat.le_refl _
   ·have:=I.lst_ v;omega
  ·intro v hv;by_cases e:v=E.t i
   ·subst e;simp [upd]
   ·simp only [upd,e,if_false] at hv ⊢;exact I.pos_ v hv
  ·intro u v hu hv h;by_cases eu:u=E.t i <;> by_cases ev:v=E.t i
   ·rw [eu,ev]
   ·simp only [upd,eu,ev,if_true,if_false] at h;have:=I.lst_ v;omega
   ·simp only [upd,eu,ev,if_true,if_false] at h;have:=I.lst_ u;omega
   ·simp only [upd,eu,ev,if_false] at hu hv h;exact I.inj_ u v hu hv h
  ·intro v;simp only [upd];split
   ·exact Nat.le_refl _
   ·exact I.lv_ v
  ·intro j hj hji hlt;simp only [upd] at hlt ⊢;by_cases ef:E.f j=E.t i
   ·rw [if_pos ef] at hlt;omega
   ·rw [if_neg ef] at hlt ⊢;by_cases hje:j=i
    ·subst hje;simp
    ·have:=I.past_ j hj (by omega) hlt;split
     ·rename_i h;rw [h] at this;omega
     ·exact this
  ·intro j hj hlt;simp only [upd] at hlt ⊢;by_cases ef:E.f j=E.t i
   ·rw [if_pos ef] at hlt;omega
   ·rw [if_neg ef] at hlt ⊢;have:=I.rest_ j hj hlt;split
    ·rename_i h;rw [h] at this;omega
    ·exact this
 ·rename_i hle;exact ⟨I.by_,I.none_,I.lst_,I.pos_,I.inj_,I.lv_,fun j hj hji hlt=>by
   by_cases e:j=i
   ·subst e;omega
   ·exact I.past_ j hj (by omega) hlt,I.rest_⟩
theorem Rz.Inv.pass {ρ:Nat}:∀ (k i:Nat),i+k<=E.m->∀ {s:Rz},s.Inv E ρ i->(E.pass ρ i k s).Inv E ρ (i+k)
 | 0,_,_,_,I=>I
 | k + 1,i,hk,s,I=>by
   have:=Rz.Inv.pass k (i+1) (by omega) (I.step (by omega));rw [show i+1+k=i+(k+1) by omega] at this;exact this
theorem Rz.Inv.next {s:Rz} {ρ:Nat} (I:s.Inv E ρ E.m):s.Inv E (ρ+1) 0:=
 ⟨I.by_,I.none_,I.lst_,I.pos_,I.inj_,fun v=>Nat.le_trans (I.lv_ v) (by omega),fun j _ h=>by omega,fun j hj h=>I.past_ j hj hj (by omega)⟩
theorem Rz.Inv.clear {s:Rz} {ρ i:Nat} (I:s.Inv E ρ i) (r:Int):Rz.Inv E { s with r:=r } ρ i:=⟨I.by_,I.none_,I.lst_,I.pos_,I.inj_,I.lv_,I.past_,I.rest_⟩
theorem Net.step_last {ρ i:Nat} {s:Rz} (h:0<=s.r->∃ v:Nat,s.r=v/\s.lv v=ρ/\v<E.n) (hE:E.OK) (hi:i<E.m):0<=(E.step ρ i s).r->∃ v:Nat,(E.step ρ i s).r=v/\(E.step ρ i s).lv v=ρ/\v<E.n:=by
 unfold Net.step;split
 ·intro _;exact ⟨E.t i,rfl,by simp [upd],hE.t i hi⟩
 ·exact h
theorem Net.pass_last (hE:E.OK) {ρ:Nat}:∀ (k i:Nat),i+k<=E.m->∀ (s:Rz),(0<=s.r->∃ v:Nat,s.r=v/\s.lv v=ρ/\v<E.n)->0<=(E.pass ρ i k s).r->∃ v:Nat,(E.pass ρ i k s).r=v/\(E.pass ρ i k s).lv v=ρ/\v<E.n
 | 0,_,_,_,h=>h
 | k+1,i,hk,s,h=>Net.pass_last hE k (i+1) (by omega) _ (Net.step_last h hE (by omega))
theorem Net.rounds_inv (hE:E.OK):∀ (k ρ:Nat) (s:Rz),0<ρ->s.Inv E ρ 0->0<k->∃ ρ',ρ'<=ρ+k - 1/\(E.rounds ρ k s).Inv E ρ' E.m/\(0<=(E.rounds ρ k s).r->ρ'=ρ+k - 1/\∃ v:Nat,(E.rounds ρ k s).r=v/\(E.rounds ρ k s).lv v=ρ'/\v<E.n)
 | 0,_,_,_,_,h=>by omega
 | k + 1,ρ,s,hρ,I,_=>by
   have I1:=Rz.Inv.pass E.m 0 (by omega) (I.clear (-1));rw [Nat.zero_add] at I1;simp only [Net.rounds];split
   ·rename_i hr;exact ⟨ρ,by omega,I1,fun h=>by omega⟩
   ·rename_i hr;cases k with
    | zero=>
      simp only [Net.rounds];exact ⟨ρ,by omega,I1,fun h=>⟨by omega,Net.pass_last hE E.m 0 (by omega) _ (fun h=>by simp only at h;omega) h⟩⟩
    | succ k=>
      obtain ⟨ρ',h1,h2,h3⟩:=Net.rounds_inv hE (k+1) (ρ+1) _ (by omega) I1.next (by omega);exact ⟨ρ',by omega,h2,fun h=>by obtain ⟨h4,h5⟩:=h3 h;exact ⟨by omega,h5⟩⟩
end
def xb2 (g:Nat->Nat):Nat->Nat->Nat
 | 0,x=>x
 | k+1,x=>xb2 g k (g x)
theorem xkv (g:Nat->Nat):∀ (a b x:Nat),xb2 g (a+b) x=xb2 g b (xb2 g a x)
 | 0,b,x=>by rw [Nat.zero_add];rfl
 | a+1,b,x=>by rw [show a+1+b=(a+b)+1 by omega];exact xkv g a b (g x)
theorem xjn (g:Nat->Nat) (k x:Nat):xb2 g (k+1) x=g (xb2 g k x):=xkv g k 1 x
theorem xCd {g:Nat->Nat} {n:Nat} (hg:∀ x,x<n->g x<n):∀ (k:Nat) {x:Nat},x<n->xb2 g k x<n
 | 0,_,h=>h
 | k+1,_,h=>xCd hg k (hg _ h)
theorem xsu:∀ {n:Nat} (s:Nat->Nat),(∀ k,k<=n->s k<n)->∃ a c,a<c/\c<=n/\s a=s c
 | 0,s,hs=>by have:=hs 0 (Nat.le_refl _);omega
 | n + 1,s,hs=>by
   by_cases h:∃ a,a<=n/\s a=s (n+1)
   ·obtain ⟨a,h1,h2⟩:=h;exact ⟨a,n+1,by omega,Nat.le_refl _,h2⟩
   ·have hne:∀ k,k<=n->s k≠s (n+1):=fun k hk e=>h ⟨k,hk,e⟩
    have hv:=hs (n+1) (Nat.le_refl _);obtain ⟨a,c,h1,h2,h3⟩:=xsu (n:=n) (fun k=>if s k > s (n+1) then s k - 1 else s k) (fun k hk=>by
     have h4:=hne k hk;have h5:=hs k (by omega)

     split <;> omega)
    refine ⟨a,c,h1,by omega,?_⟩;have h4:=hne a (by omega);have h5:=hne c h2;split at h3 <;> split at h3 <;> omega
theorem xOu {n:Nat} {g:Nat->Nat} (hg:∀ x,x<n->g x<n) {x:Nat} (hx:x<n) {K:Nat} (hK:n<=K+1):∃ k,0<k/\k<=n/\xb2 g k (xb2 g K x)=xb2 g K x:=by
 obtain ⟨a,c,hac,hcn,e⟩:=xsu (n:=n) (fun k=>xb2 g k x) (fun k _=>xCd hg k hx);refine ⟨c - a,by omega,by omega,?_⟩;have h1:xb2 g (c - a) (xb2 g a x)=xb2 g a x:=by rw [<- xkv,show a+(c - a)=c by omega];exact e.symm
 rw [show K=a+(K - a) by omega,xkv,<- xkv,Nat.add_comm,xkv,h1]
def xi4 (x:Nat->Int):Nat->Int
 | 0=>0
 | k+1=>xi4 x k+x k
theorem xxm {x y:Nat->Int}:∀ {k:Nat},(∀ j,j<k->x j<=y j)->xi4 x k<=xi4 y k
 | 0,_=>Int.le_refl _
 | k + 1,h=>by
   have h1:=xxm (k:=k) fun j hj=>h j (by omega)
   have h2:=h k (by omega);simp only [xi4];omega
theorem xGu {x y:Nat->Int}:∀ {k j:Nat},j<k->(∀ i,i<k->x i<=y i)->x j<y j->xi4 x k<xi4 y k
 | 0,_,hj,_,_=>by omega
 | k + 1,j,hj,h,hl=>by
   simp only [xi4];by_cases e:j=k
   ·subst e;have:=xxm (k:=j) fun i hi=>h i (by omega)
    omega
   ·have:=xGu (k:=k) (j:=j) (by omega) (fun i hi=>h i (by omega)) hl;have:=h k (by omega);omega
theorem xru (x:Nat->Int):∀ (k:Nat),xi4 (fun j=>x j - x (j+1)) k=x 0 - x k
 | 0=>by simp [xi4]
 | k+1=>by rw [xi4,xru x k];omega
theorem xA7 (x:Nat->Nat):∀ (k:Nat),0<k->∃ j,j<k/\∀ i,i<k->x i<=x j
 | 0,h=>by omega
 | 1,_=>⟨0,by omega,fun i hi=>by rw [show i=0 by omega];exact Nat.le_refl _⟩
 | k + 2,_=>by
   obtain ⟨j,h1,h2⟩:=xA7 x (k+1) (by omega);by_cases h:x j<=x (k+1)
   ·refine ⟨k+1,by omega,fun i hi=>?_⟩;by_cases e:i=k+1
    ·rw [e];exact Nat.le_refl _
    ·exact Nat.le_trans (h2 i (by omega)) h
   ·refine ⟨j,by omega,fun i hi=>?_⟩;by_cases e:i=k+1
    ·rw [e];omega
    ·exact h2 i (by omega)
def Net.back (_:Net) (b:Nat->Int) (d:Nat->Nat) (v:Nat):Nat:=if b v<0 then d v else (b v).toNat
section
variable {E:Net} {s:Rz} {ρ:Nat} {d:Nat->Nat}
theorem Rz.Inv.walk_lv (I:s.Inv E ρ E.m) {v:Nat}:∀ {k:Nat},k<s.lv v->0<s.lv (xb2 (fun x=>E.f (E.back s.b d x)) k v)/\s.lv v<=s.lv (xb2 (fun x=>E.f (E.back s.b d x)) k v)+k
 | 0,h=>⟨h,by simp [xb2]⟩
 | k + 1,h=>by
   obtain ⟨h1,h2⟩:=I.walk_lv (k:=k) (v:=v) (by omega);rw [xjn];generalize xb2 (fun x=>E.f (E.back s.b d x)) k v=u at h1 h2 ⊢;have hb:0<=s.b u:=by
    apply Classical.byContradiction;intro hn;have:=(I.none_ u (by omega)).2.2;omega
   obtain ⟨e,e1,_,_,_,_,e6⟩:=I.by_ u hb;have hbk:E.back s.b d u=e:=by unfold Net.back;rw [if_neg (by omega),e1];rfl
   rw [hbk];omega
theorem Rz.Inv.circle (I:s.Inv E ρ E.m) (hE:E.OK) (hd:∀ v,v<E.n->d v<E.m) {v:Nat} (hv:v<E.n) (hlv:s.lv v=ρ) (hρ:ρ=E.n+1) {K:Nat} (hK:K=E.n+1) :
    ∃ k, 0<k/\k<=E.n/\xb2 (fun x=>E.f (E.back s.b d x)) k (xb2 (fun x=>E.f (E.back s.b d x)) K v)=xb2 (fun x=>E.f (E.back s.b d x)) K v /\
      ∀ j,0<=s.b (xb2 (fun x=>E.f (E.back s.b d x)) j (xb2 (fun x=>E.f (E.back s.b d x)) K v)):=by
 have hg:∀ x,x<E.n->E.f (E.back s.b d x)<E.n:=fun x hx=>by
  refine hE.f _ ?_;unfold Net.back;split
  ·exact hd x hx
  ·rename_i h;obtain ⟨e,e1,e2,_⟩:=I.by_ x (by omega);rw [e1];exact e2
 have hpos:∀ k,k<=E.n->0<=s.b (xb2 (fun x=>E.f (E.back s.b d x)) k v):=fun k hk=>by
  apply Classical.byContradiction;intro hn;have h1:=(I.none_ _ (show s.b (xb2 (fun x=>E.f (E.back s.b d x)) k v)<0 by omega)).2.2;have:=(I.walk_lv (d:=d) (v:=v) (k:=k) (by omega)).1;omega
 obtain ⟨k,k1,k2,k3⟩:=xOu hg hv (K:=K) (by omega);refine ⟨k,k1,k2,k3,fun j=>?_⟩;obtain ⟨a,c,hac,hcn,e⟩:=xsu (n:=E.n) (fun k=>xb2 (fun x=>E.f (E.back s.b d x)) k v) (fun k _=>xCd hg k hv)
 -- everything from a on repeats xa0 a .. c - 1
 have hall:∀ i,∃ k,k<c/\xb2 (fun x=>E.f (E.back s.b d x)) i v=xb2 (fun x=>E.f (E.back s.b d x)) k v:=by
  intro i;induction i with
  | zero=>exact ⟨0,by omega,rfl⟩
  | succ i ih=>
    obtain ⟨k,h1,h2⟩:=ih;by_cases hk:k+1<c
    ·exact ⟨k+1,hk,by rw [xjn,xjn,h2]⟩
    ·refine ⟨a,hac,?_⟩;have h3:xb2 (fun x=>E.f (E.back s.b d x)) (k+1) v=E.f (E.back s.b d (xb2 (fun x=>E.f (E.back s.b d x)) k v)):=xjn _ _ _;rw [xjn,h2,<- h3,show k+1=c by omega];exact e.symm
 rw [<- xkv];obtain ⟨i,h1,h2⟩:=hall (K+j);rw [h2];exact hpos i (by omega)
theorem Rz.Inv.weighs (I:s.Inv E ρ E.m) {y k:Nat} (hk:0<k) (hy:xb2 (fun x=>E.f (E.back s.b d x)) k y=y) (hb:∀ j,0<=s.b (xb2 (fun x=>E.f (E.back s.b d x)) j y)) :
    0 < xi4 (fun j=>E.w (E.back s.b d (xb2 (fun x=>E.f (E.back s.b d x)) j y))) k:=by
 have key:∀ j,s.t (xb2 (fun x=>E.f (E.back s.b d x)) j y) - s.t (xb2 (fun x=>E.f (E.back s.b d x)) (j+1) y)<=E.w (E.back s.b d (xb2 (fun x=>E.f (E.back s.b d x)) j y)) /\
     ((s.lst (xb2 (fun x=>E.f (E.back s.b d x)) j y)<s.lst (xb2 (fun x=>E.f (E.back s.b d x)) (j+1) y)\/xb2 (fun x=>E.f (E.back s.b d x)) (j+1) y=xb2 (fun x=>E.f (E.back s.b d x)) j y) ->
       s.t (xb2 (fun x=>E.f (E.back s.b d x)) j y) - s.t (xb2 (fun x=>E.f (E.back s.b d x)) (j+1) y)<E.w (E.back s.b d (xb2 (fun x=>E.f (E.back s.b d x)) j y))):=by
  intro j;rw [xjn];have h0:=hb j;generalize xb2 (fun x=>E.f (E.back s.b d x)) j y=u at h0 ⊢;obtain ⟨e,e1,_,_,e4,e5,_⟩:=I.by_ u h0;have hbk:E.back s.b d u=e:=by unfold Net.back;rw [if_neg (by omega),e1];rfl
  rw [hbk];exact ⟨by omega,fun h=>by have:=e5 h;omega⟩
 have htele:=xru (fun j=>s.t (xb2 (fun x=>E.f (E.back s.b d x)) j y)) k;rw [hy] at htele;have hz:xi4 (fun j=>s.t (xb2 (fun x=>E.f (E.back s.b d x)) j y) - s.t (xb2 (fun x=>E.f (E.back s.b d x)) (j+1) y)) k=0:=by rw [htele];simp [xb2]
 rw [<- hz];obtain ⟨j,hj,hmax⟩:=xA7 (fun j=>s.lst (xb2 (fun x=>E.f (E.back s.b d x)) j y)) k hk
 -- the one ahead of the latest
 have hcase:∃ i,i<k/\xb2 (fun x=>E.f (E.back s.b d x)) (i+1) y=xb2 (fun x=>E.f (E.back s.b d x)) j y:=by
  cases j with
  | zero=>exact ⟨k - 1,by omega,by rw [show k - 1+1=k by omega,hy];rfl⟩
  | succ j=>exact ⟨j,by omega,rfl⟩
 obtain ⟨i,hi,he⟩:=hcase;refine xGu hi (fun i _=>(key i).1) ((key i).2 ?_);have h1:=hmax i hi;rw [he];by_cases h2:s.lst (xb2 (fun x=>E.f (E.back s.b d x)) i y)=s.lst (xb2 (fun x=>E.f (E.back s.b d x)) j y)
 ·exact .inr (I.inj_ _ _ (hb i) (hb j) h2).symm
 ·exact .inl (by omega)
end
end Go.Lite
namespace Go.Proofs.YtgoedfonmocafaaGreat
open Go.Lite
set_option maxRecDepth 100000
theorem xsg (n:Int) (l:List (List D)):(xfj n l).length=l.length+n.toNat:=by simp [xfj,xAg]
theorem xSx {n:Int} {l:List (List D)} {i:Nat} (h:i<l.length):(xfj n l).getD i []=l.getD i []:=by
 simp only [xfj,List.getD_eq_getElem?_getD];rw [List.getElem?_append_left h]
theorem xEs {n:Int} {l:List (List D)} {i:Nat} (h:i<n.toNat):(xfj n l).getD (l.length+i) []=[.i 0,.i (i:Int),.i 0]:=by
 have:=xA6 (i:=0) (k:=n.toNat) (j:=i) h;simp only [List.getD_eq_getElem?_getD,Nat.zero_add] at this;simp only [xfj,List.getD_eq_getElem?_getD];rw [List.getElem?_append_right (by omega),Nat.add_sub_cancel_left];exact this
theorem xHv {n:Int} {l:List (List D)} (h:xx5 n l):1<=n/\n<=500/\l.length<=5000/\∀ i,i<l.length->(0<=lkF l i/\lkF l i<n)/\(0<=lkT l i/\lkT l i<n)/\(-1000000<=lkW l i/\lkW l i<=1000000):=by
 simp only [xx5,xN9,Bool.and_eq_true,Lite.xrt,decide_eq_true_eq,xdz,xRw,xsd] at h;obtain ⟨⟨⟨h1,h2⟩,h3⟩,h4⟩:=h;refine ⟨h1,h2,h3,fun i hi=>?_⟩;have:=h4 i (Nat.zero_le _) (by omega);omega
theorem xmp {n:Int} {l:List (List D)} (h:xx5 n l):xe9 n (xfj n l):=by
 obtain ⟨h1,h2,h3,h4⟩:=xHv h;refine ⟨h1,h2,by rw [xsg];omega,fun i hi=>?_⟩;rw [xsg] at hi;by_cases hl:i<l.length
 ·have:=h4 i hl;unfold lkF lkT lkW at this ⊢;rw [xSx hl];exact this
 ·obtain ⟨j,rfl⟩:∃ j,i=l.length+j:=⟨i - l.length,by omega⟩;unfold lkF lkT lkW;rw [xEs (by omega)];simp only [ix,List.getD_cons_zero,List.getD_cons_succ,D.I];omega
theorem xSt (n:Int) {M:Int} (h:0<=M):xPf (xg6 n) M:=fun j=>by
 unfold xg6;by_cases hj:j<n.toNat
 ·rw [xzt hj];omega
 ·rw [xNl (by simp only [List.length_replicate];omega)];omega
theorem xgd (n:Int):(xg6 n).length=n.toNat:=by simp [xg6]
set_option maxRecDepth 100000
def xfs (n:Int) (l:List (List D)):Net:=⟨n.toNat,l.length,fun i=>(lkF l i).toNat,fun i=>(lkT l i).toNat,fun i=>lkW l i⟩
theorem xB5 {n:Int} {l:List (List D)} (h:xe9 n l):(xfs n l).OK:=
 ⟨fun i hi=>by have:=(h.2.2.2 i hi).1;show (lkF l i).toNat<n.toNat;omega,fun i hi=>by have:=(h.2.2.2 i hi).2.1;show (lkT l i).toNat<n.toNat;omega⟩
structure SimR (n:Int) (s:RSt) (x:Rz):Prop where
 l1:s.1.length=n.toNat
 l2:s.2.1.length=n.toNat
 t : ∀ j,x.t j=rg s.1 j
 b : ∀ j,j<n.toNat->x.b j=rg s.2.1 j
 r : x.r=s.2.2
theorem xTt {n:Int} {l:List (List D)} (hl:xe9 n l) {i ρ:Nat} (hi:i<l.length) {s:RSt} {x:Rz} (h:SimR n s x):SimR n (xi5 l i s) ((xfs n l).step ρ i x):=by
 obtain ⟨h1,h2,h3,h4,h5⟩:=h;obtain ⟨f1,f2,f3⟩:=hl.2.2.2 i hi;unfold xi5 Net.step xfs;simp only [h3];by_cases hc:rg s.1 (lkF l i).toNat+lkW l i > rg s.1 (lkT l i).toNat
 ·rw [if_pos hc,if_pos hc];refine ⟨by simp only [xl2];exact h1,by simp only [xl2];exact h2,fun j=>?_,fun j hj=>?_,?_⟩
  ·simp only [upd];rw [xkl (by omega),h3]
  ·simp only [upd];rw [xkl (by omega),h4 j hj]
  ·simp only;omega
 ·rw [if_neg hc,if_neg hc];exact ⟨h1,h2,h3,h4,h5⟩
theorem xG8 {n:Int} {l:List (List D)} (hl:xe9 n l) {ρ:Nat}:∀ (k i:Nat),i+k<=l.length->∀ {s:RSt} {x:Rz},SimR n s x->SimR n (xhq l i k s) ((xfs n l).pass ρ i k x)
 | 0,_,_,_,_,h=>h
 | k+1,i,hk,_,_,h=>xG8 hl k (i+1) (by omega) (xTt hl (by omega) h)
theorem xzl {n:Int} {l:List (List D)} (hl:xe9 n l):∀ (k ρ:Nat) {s:RSt} {x:Rz},SimR n s x->SimR n (xg1 l k s) ((xfs n l).rounds ρ k x)
 | 0,_,_,_,h=>h
 | k + 1,ρ,s,x,h=>by
   have h1:=xG8 hl (ρ:=ρ) l.length 0 (by omega) (s:=(s.1,s.2.1,-1)) (x:={ x with r:=-1 }) ⟨h.l1,h.l2,h.t,h.b,rfl⟩;simp only [xg1,Net.rounds];have e:((xfs n l).pass ρ 0 (xfs n l).m { x with r:=-1 }).r=(xhq l 0 l.length (s.1,s.2.1,-1)).2.2:=h1.r;rw [e];split
   ·exact h1
   ·exact xzl hl k (ρ+1) h1
theorem xop {n:Int} {l t:List (List D)} (hl:xe9 n l) (ht:t.length=n.toNat):SimR n (xfp n l t) ((xfs n l).rounds 1 (n.toNat+1) (Rz.start (rg t))):=
 xzl hl _ _ ⟨ht,by simp,fun _=>rfl,fun j hj=>(xzt hj).symm,rfl⟩
theorem xEb {n:Int} {l t:List (List D)} (hl:xe9 n l) (ht:t.length=n.toNat) (hr:(xfp n l t).2.2<0):(xfs n l).kept (rg (xfp n l t).1):=by
 have h:=xop hl ht;have h1:=Net.rounds_kept (E:=xfs n l) (n.toNat+1) 1 (Rz.start (rg t)) (by omega) (by rw [h.r];exact hr);intro i hi;have:=h1 i hi;rw [h.t,h.t] at this;exact this
theorem xLf {n:Int} {l t:List (List D)} (hl:xe9 n l) (ht:t.length=n.toNat) {p:Nat->Int} (hp:(xfs n l).kept p) (h0:∀ j,rg t j<=p j) (j:Nat):rg (xfp n l t).1 j<=p j:=by
 have h:=xop hl ht;rw [<- h.t];exact Net.rounds_ub hp _ _ _ h0 j
theorem xB2 {n:Int} {l t:List (List D)} (hl:xe9 n l) (ht:t.length=n.toNat) (j:Nat):rg t j<=rg (xfp n l t).1 j:=by
 have h:=xop hl ht;rw [<- h.t];exact Net.rounds_le (E:=xfs n l) (n.toNat+1) 1 (Rz.start (rg t)) j
theorem xou (n:Int) (j:Nat):rg (xg6 n) j=0:=by
 unfold xg6;by_cases hj:j<n.toNat
 ·exact xzt hj
 ·exact xNl (by simp only [List.length_replicate];omega)
theorem xOs {n:Int} {l:List (List D)} {p:Nat->Int} (hp:(xfs n (xfj n l)).kept p) {j:Nat} (hj:j<n.toNat):p 0<=p j:=by
 have:=hp (l.length+j) (show l.length+j<(xfj n l).length by rw [xsg];omega);simp only [xfs] at this;unfold lkF lkT lkW at this;rw [xEs hj] at this;simp only [ix,List.getD_cons_zero,List.getD_cons_succ,D.I,Int.toNat_natCast,Int.toNat_zero] at this;omega
theorem xRb {n:Int} {l:List (List D)} (hp:xx5 n l) (hr:(xfp n (xfj n l) (xg6 n)).2.2<0):rg (xfp n (xfj n l) (xg6 n)).1 0=0:=by
 have hl:=xmp hp;have hn:=(xHv hp).1;have hk:=xEb hl (xgd n) hr;have h1:=xLf hl (xgd n) (p:=fun j=>if j<n.toNat then rg (xfp n (xfj n l) (xg6 n)).1 j - rg (xfp n (xfj n l) (xg6 n)).1 0 else rg (xfp n (xfj n l) (xg6 n)).1 j) (fun i hi=>by
     have h2:=hk i hi;have h3:=(xB5 hl).f i hi;have h4:=(xB5 hl).t i hi;have h3':(xfs n (xfj n l)).f i<n.toNat:=h3;have h4':(xfs n (xfj n l)).t i<n.toNat:=h4;simp only;rw [if_pos h3',if_pos h4'];omega) (fun j=>by
     rw [xou];split
     ·rename_i hj;have:=xOs hk hj;omega
     ·have:=xB2 hl (xgd n) j;rw [xou] at this;exact this) 0
 rw [if_pos (by omega)] at h1;have h2:=xB2 hl (xgd n) 0;rw [xou] at h2;omega
end Go.Proofs.YtgoedfonmocafaaGreat
namespace Go.Lite
theorem Net.rounds_done {E:Net} (hE:E.OK) (hm:0<E.m) {p:Nat->Int} (hp:E.kept p) (t:Nat->Int):(E.rounds 1 (E.n+1) (Rz.start t)).r<0:=by
 apply Classical.byContradiction;intro hr;obtain ⟨ρ',-,I,hI⟩:=Net.rounds_inv hE (E.n+1) 1 (Rz.start t) (by omega) (Rz.start_inv _) (by omega);obtain ⟨hρ,v,hv1,hv2,hv3⟩:=hI (by omega);clear hI;generalize E.rounds 1 (E.n+1) (Rz.start t)=s at *;obtain ⟨k,k0,k1,k2,k3⟩:=I.circle (d:=fun _=>0) hE (fun _ _=>hm) hv3 hv2 (by omega) (K:=E.n+1) rfl;have hW:=I.weighs k0 k2 k3;generalize xb2 (fun x=>E.f (E.back s.b (fun _=>0) x)) (E.n+1) v=y at *;have hle:xi4 (fun j=>E.w (E.back s.b (fun _=>0) (xb2 (fun x=>E.f (E.back s.b (fun _=>0) x)) j y))) k<=xi4 (fun j=>p (xb2 (fun x=>E.f (E.back s.b (fun _=>0) x)) j y) - p (xb2 (fun x=>E.f (E.back s.b (fun _=>0) x)) (j+1) y)) k:=by
  refine xxm fun j _=>?_
  rw [xjn];have h0:=k3 j;generalize xb2 (fun x=>E.f (E.back s.b (fun _=>0) x)) j y=u at h0 ⊢;obtain ⟨e,e1,e2,e3,-⟩:=I.by_ u h0;have hb:E.back s.b (fun _=>0) u=e:=by unfold Net.back;rw [if_neg (by omega),e1];rfl
  have:=hp e e2;simp only [hb];rw [e3] at this;omega
 rw [xru (fun j=>p (xb2 (fun x=>E.f (E.back s.b (fun _=>0) x)) j y)) k,k2] at hle;simp only [xb2] at hle;omega
end Go.Lite
namespace Go.Proofs.YtgoedfonmocafaaGreat
open Go.Lite
theorem xRc {n:Int} {l t:List (List D)} (hl:xe9 n l) (h0:0<l.length) (ht:t.length=n.toNat) {p:Nat->Int} (hp:(xfs n l).kept p):(xfp n l t).2.2<0:=by
 rw [<- (xop hl ht).r];exact Net.rounds_done (E:=xfs n l) (xB5 hl) h0 hp (rg t)
theorem xNn {n:Int} {l:List (List D)} (hp:xx5 n l) {p:Nat->Int} (hk:(xfs n (xfj n l)).kept p) (h0:∀ j,0<=p j):(xfp n (xfj n l) (xg6 n)).2.2<0/\∀ j,rg (xfp n (xfj n l) (xg6 n)).1 j<=p j:=by
 have hl:=xmp hp;have hla:=xsg n l;have hn:=(xHv hp).1;exact ⟨xRc hl (by omega) (xgd n) hk,fun j=>xLf hl (xgd n) hk (fun j=>by rw [xou];exact h0 j) j⟩
set_option maxRecDepth 100000
def xUq (s:Sig) (G:List D->T (List D)) (s':Sig) (G':List D->T (List D)):List SV->T (SV×xav):=fun args=>match xdv s.args args with
 | some ds=>(G ds).map (xp3 s.res)
 | none=>match xdv s'.args args with
   | some ds=>(G' ds).map (xp3 s'.res)
   | none=>.fail
theorem xR7 {C:Cfg} {n:Nat} {f:FuncId} {s s':Sig} {G G':List D->T (List D)} (h:xbo C n f (mkF s G)) (h':xbo C n f (mkF s' G')):xbo C n f (xUq s G s' G'):=by
 intro args v hb hv avs ha;unfold xUq at hv;split at hv
 ·rename_i ds hds;exact h args v hb (by unfold mkF;rw [hds];exact hv) avs ha
 ·split at hv
  ·rename_i ds hds;exact h' args v hb (by unfold mkF;rw [hds];exact hv) avs ha
  ·cases hv
end Go.Proofs.YtgoedfonmocafaaGreat
