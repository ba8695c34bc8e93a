/-
  Shapes of arguments, results and loops. Written by program.
  What functions come to in the cases of the law about timetables and proofs, and its loops.
  Tables. Written by program.
  What the rounds and the functions come to. Written by program.
  The statement of TimetableEither follows once the law is reckoned to be true for arguments of the right shapes.
  The law about timetables and proofs holds for every input.
-/
import Derived.Test.YtipbcpobnciccaaTimGM
import Derived.Test.YtipbcpobnciccaaOver
namespace Go.Proofs.Ytipbcpobnciccaa
open Go.Lite
def s1028 : Sig := ⟨[.k (.int .i64), .k (.ro [.int .i64, .int .i64, .int .i64])], [(.tup [.sl 0 1, .nils, .k (.int .i64)], [.row [.int .i64]])]⟩
def s2028 : Sig := ⟨[.k (.int .i64), .k (.ro [.int .i64, .int .i64, .int .i64])], [(.tup [.nils, .sl 0 1, .k (.int .i64)], [.row [.int .i64]])]⟩
def s1008 : Sig := ⟨[.k (.int .i64), .k (.ro [.int .i64, .int .i64, .int .i64]), .k (.ro [.int .i64]), .k (.ro [.int .i64])], [(.k .bool, [])]⟩
def l1008_5 : LSig := mkLS [0, 1, 2, 3, 9, 10] [(173, [(0, .k (.int .i64)), (1, .k (.ro [.int .i64, .int .i64, .int .i64])), (2, .k (.ro [.int .i64])), (3, .k (.ro [.int .i64])), (9, .k (.int .i64)), (10, .k (.int .i64))], [])] [(.ret, [8], [(173, [(8, .k .bool)], [])]), (.exit 0, [0, 1, 2, 3, 9], [(173, [(0, .k (.int .i64)), (1, .k (.ro [.int .i64, .int .i64, .int .i64])), (2, .k (.ro [.int .i64])), (3, .k (.ro [.int .i64])), (9, .k (.int .i64))], [])])]
def l1008_20 : LSig := mkLS [0, 2, 11, 16, 18] [(173, [(0, .k (.int .i64)), (2, .k (.ro [.int .i64])), (11, .sl 0 1), (16, .sl 1 1), (18, .k (.int .i64))], [.row [.int .i64], .row [.int .i64]])] [(.ret, [8], [(173, [(8, .k .bool)], [])]), (.exit 2, [], [(173, [], [])])]
def s2008 : Sig := ⟨[.k (.int .i64), .k (.ro [.int .i64, .int .i64, .int .i64]), .k (.ro [.int .i64]), .k (.ro [.int .i64])], [(.k .bool, [])]⟩
def l2008_5 : LSig := mkLS [0, 1, 2, 3, 9, 10] [(173, [(0, .k (.int .i64)), (1, .k (.ro [.int .i64, .int .i64, .int .i64])), (2, .k (.ro [.int .i64])), (3, .k (.ro [.int .i64])), (9, .k (.int .i64)), (10, .k (.int .i64))], [])] [(.ret, [8], [(173, [(8, .k .bool)], [])]), (.exit 0, [0, 1, 2, 3, 9], [(173, [(0, .k (.int .i64)), (1, .k (.ro [.int .i64, .int .i64, .int .i64])), (2, .k (.ro [.int .i64])), (3, .k (.ro [.int .i64])), (9, .k (.int .i64))], [])])]
end Go.Proofs.Ytipbcpobnciccaa

namespace Go.Proofs.Ytipbcpobnciccaa
open Go.Lite
noncomputable section
abbrev firstR (n : Int) (l : List (List D)) : RSt := pushR n (allL n l) (zeros n)
def G1028 (ds : List D) : T (List D) := match ds with
  | [n, l] => .need (yes (l.L.length < big ∧ netOk n.I l.L = true ∧ (firstR n.I l.L).2.2 < 0)) (.leaf [.i n.I, .i 0, .l (firstR n.I l.L).1])
  | _ => .fail
def G2028 (ds : List D) : T (List D) := match ds with
  | [n, l] => .need (yes (l.L.length < big ∧ netOk n.I l.L = true ∧ ¬ (firstR n.I l.L).2.2 < 0)) (.leaf [.i (proofR n.I (allL n.I l.L)).length, .i 5, .l (proofR n.I (allL n.I l.L))])
  | _ => .fail
def dayB (t : List (List D)) (j : Nat) : Bool := !decide (rg t j < 0) && !decide (rg t j > 1000000000)
def G1008_5 (ds : List D) : T (Ex × List D) := match ds with
  | [n, l, t, c, x, i] => .need (yes (t.L.length < big ∧ 0 ≤ i.I ∧ i.I ≤ t.L.length))
      (.ite (allFrom (dayB t.L) i.I.toNat (t.L.length - i.I.toNat)) (.leaf (.exit 0, [.i n.I, .l l.L, .l t.L, .l c.L, .i (maxR t.L i.I.toNat (t.L.length - i.I.toNat) x.I)])) (.leaf (.ret, [.b true])))
  | _ => .fail
def G2008_5 : List D → T (Ex × List D) := G1008_5
def amidB (w t l : List (List D)) (j : Nat) : Bool := !decide (rg w j < rg t j) && !decide (rg w j > rg l j)
def G1008_20 (ds : List D) : T (Ex × List D) := match ds with
  | [n, w, p, q, i, t, l] => .need (yes (0 ≤ n.I ∧ n.I ≤ 500 ∧ p.I = n.I ∧ q.I = n.I ∧ (w.L.length : Int) = n.I ∧ (t.L.length : Int) = n.I ∧ (l.L.length : Int) = n.I ∧ 0 ≤ i.I ∧ i.I ≤ n.I))
      (.ite (allFrom (amidB w.L t.L l.L) i.I.toNat (n.I.toNat - i.I.toNat)) (.leaf (.exit 2, [])) (.leaf (.ret, [.b false])))
  | _ => .fail
end
end Go.Proofs.Ytipbcpobnciccaa

namespace Go.Proofs.Ytipbcpobnciccaa
open Go.Lite
noncomputable def sp1008 : SpL := [(18, mkF s18 G18), (16, mkF s16 G16), (28, mkF s1028 G1028), (31, mkF s31 G31), (30, mkF s30 G30), (33, mkF s1033 G1033)]
noncomputable def lp1008 : LpL := [(5, mkL l1008_5 G1008_5), (20, mkL l1008_20 G1008_20)]
noncomputable def sw1008 : SwL := []
noncomputable def tab1008 : Tab := mkTab sp1008 lp1008 sw1008
noncomputable def sp2008 : SpL := [(18, mkF s18 G18), (16, mkF s16 G16), (28, mkF s2028 G2028), (31, mkF s31 G31), (30, mkF s30 G30), (33, mkF s1033 G1033)]
noncomputable def lp2008 : LpL := [(5, mkL l2008_5 G2008_5)]
noncomputable def sw2008 : SwL := []
noncomputable def tab2008 : Tab := mkTab sp2008 lp2008 sw2008
end Go.Proofs.Ytipbcpobnciccaa

namespace Go.Proofs.Ytipbcpobnciccaa
open Go.Lite
set_option linter.unusedVariables false
set_option maxRecDepth 100000
theorem t1008 (a b c d : D) : fnT C tab1008 8 s1008 [a, b, c, d] =
  T.ite (decide (D.I a > (12 : Int))) (T.leaf [D.b true]) (T.ite (decide ((↑(List.length (D.L b)) : Int) > (30 : Int))) (T.leaf [D.b true]) (T.need (yes (List.length (D.L b) < big)) (T.ite (!netOk (D.I a) (D.L b)) (T.leaf [D.b true]) (T.ite (decide ((↑(List.length (D.L c)) : Int) > (12 : Int))) (T.leaf [D.b true]) (T.ite (decide ((↑(List.length (D.L d)) : Int) > (40 : Int))) (T.leaf [D.b true]) (T.need (yes (List.length (D.L c) < big ∧ (0 : Int) ≤ (0 : Int) ∧ (0 : Int) ≤ (↑(List.length (D.L c)) : Int))) (T.ite (allFrom (dayB (D.L c)) (Int.toNat (0 : Int)) (List.length (D.L c) - Int.toNat (0 : Int))) (T.need (yes (List.length (D.L b) < big ∧ netOk (D.I a) (D.L b) = true ∧ (firstR (D.I a) (D.L b)).snd.snd < (0 : Int))) (T.need (yes (List.length (D.L b) < big ∧ List.length (D.L c) < big ∧ ∀ (j : Nat), rg (D.L c) j < (9223372036854775808 : Int))) (T.need (yes (List.length (D.L b) < big)) (T.ite (netOk (D.I a) (D.L b) && keepsB (D.I a) (D.L b) (D.L c)) (T.ite (netOk (D.I a) (D.L b) && provesB (D.I a) (allL (D.I a) (D.L b)) (D.L d)) (T.leaf [D.b false]) (T.ite true (T.ite (netOk (D.I a) (D.L b) && provesB (D.I a) (allL (D.I a) (D.L b)) (D.L d)) (T.leaf [D.b false]) (T.need (decide (Int.toNat (D.I a) ≤ List.length (firstR (D.I a) (D.L b)).fst)) (T.need (yes (List.length (D.L b) < big ∧ List.length (List.take (Int.toNat (D.I a)) (firstR (D.I a) (D.L b)).fst) < big ∧ ∀ (j : Nat), rg (List.take (Int.toNat (D.I a)) (firstR (D.I a) (D.L b)).fst) j < (9223372036854775808 : Int))) (T.ite (!(netOk (D.I a) (D.L b) && keepsB (D.I a) (D.L b) (List.take (Int.toNat (D.I a)) (firstR (D.I a) (D.L b)).fst))) (T.leaf [D.b false]) (T.ite false (T.ite (netOk (D.I a) (D.L b) && keepsB (D.I a) (D.L b) (D.L c)) (T.leaf [D.b false]) (T.need (yes (List.length (D.L b) < big)) (T.ite (!(netOk (D.I a) (D.L b) && provesB (D.I a) (allL (D.I a) (D.L b)) [])) (T.leaf [D.b false]) (T.ite (!(netOk (D.I a) (D.L b) && keepsB (D.I a) (D.L b) (D.L c))) (T.ite true (T.leaf [D.b true]) (T.ite false (T.leaf [D.b true]) (T.leaf [D.b false]))) (T.need (yes (List.length (D.L b) < big ∧ latOk (D.I a) (D.L b) (maxR (D.L c) (Int.toNat (0 : Int)) (List.length (D.L c) - Int.toNat (0 : Int)) (0 : Int)) = true)) (T.ite false (T.leaf [D.b false]) (T.ite ((↑(Int.toNat (D.I a)) : Int) != D.I a) (T.leaf [D.b false]) (T.ite ((↑(Int.toNat (D.I a)) : Int) != D.I a) (T.leaf [D.b false]) (T.need (yes ((0 : Int) ≤ D.I a ∧ D.I a ≤ (500 : Int) ∧ (↑(Int.toNat (D.I a)) : Int) = D.I a ∧ (↑(Int.toNat (D.I a)) : Int) = D.I a ∧ (↑(List.length (D.L c)) : Int) = D.I a ∧ (↑(List.length (firstR (D.I a) (D.L b)).fst) : Int) = D.I a ∧ (↑(List.length (latR (D.I a) (allL (D.I a) (D.L b)) (maxR (D.L c) (Int.toNat (0 : Int)) (List.length (D.L c) - Int.toNat (0 : Int)) (0 : Int))).fst) : Int) = D.I a ∧ (0 : Int) ≤ (0 : Int) ∧ (0 : Int) ≤ D.I a)) (T.ite (allFrom (amidB (D.L c) (firstR (D.I a) (D.L b)).fst (latR (D.I a) (allL (D.I a) (D.L b)) (maxR (D.L c) (Int.toNat (0 : Int)) (List.length (D.L c) - Int.toNat (0 : Int)) (0 : Int))).fst) (Int.toNat (0 : Int)) (Int.toNat (D.I a) - Int.toNat (0 : Int))) (T.leaf [D.b true]) (T.leaf [D.b false]))))))))))) (T.ite (!(netOk (D.I a) (D.L b) && keepsB (D.I a) (D.L b) (D.L c))) (T.ite true (T.leaf [D.b true]) (T.ite false (T.leaf [D.b true]) (T.leaf [D.b false]))) (T.need (yes (List.length (D.L b) < big ∧ latOk (D.I a) (D.L b) (maxR (D.L c) (Int.toNat (0 : Int)) (List.length (D.L c) - Int.toNat (0 : Int)) (0 : Int)) = true)) (T.ite false (T.leaf [D.b false]) (T.ite ((↑(Int.toNat (D.I a)) : Int) != D.I a) (T.leaf [D.b false]) (T.ite ((↑(Int.toNat (D.I a)) : Int) != D.I a) (T.leaf [D.b false]) (T.need (yes ((0 : Int) ≤ D.I a ∧ D.I a ≤ (500 : Int) ∧ (↑(Int.toNat (D.I a)) : Int) = D.I a ∧ (↑(Int.toNat (D.I a)) : Int) = D.I a ∧ (↑(List.length (D.L c)) : Int) = D.I a ∧ (↑(List.length (firstR (D.I a) (D.L b)).fst) : Int) = D.I a ∧ (↑(List.length (latR (D.I a) (allL (D.I a) (D.L b)) (maxR (D.L c) (Int.toNat (0 : Int)) (List.length (D.L c) - Int.toNat (0 : Int)) (0 : Int))).fst) : Int) = D.I a ∧ (0 : Int) ≤ (0 : Int) ∧ (0 : Int) ≤ D.I a)) (T.ite (allFrom (amidB (D.L c) (firstR (D.I a) (D.L b)).fst (latR (D.I a) (allL (D.I a) (D.L b)) (maxR (D.L c) (Int.toNat (0 : Int)) (List.length (D.L c) - Int.toNat (0 : Int)) (0 : Int))).fst) (Int.toNat (0 : Int)) (Int.toNat (D.I a) - Int.toNat (0 : Int))) (T.leaf [D.b true]) (T.leaf [D.b false]))))))))))))) (T.ite false (T.ite (netOk (D.I a) (D.L b) && keepsB (D.I a) (D.L b) (D.L c)) (T.leaf [D.b false]) (T.need (yes (List.length (D.L b) < big)) (T.ite (!(netOk (D.I a) (D.L b) && provesB (D.I a) (allL (D.I a) (D.L b)) [])) (T.leaf [D.b false]) (T.ite (!(netOk (D.I a) (D.L b) && keepsB (D.I a) (D.L b) (D.L c))) (T.ite true (T.leaf [D.b true]) (T.ite false (T.leaf [D.b true]) (T.leaf [D.b false]))) (T.need (yes (List.length (D.L b) < big ∧ latOk (D.I a) (D.L b) (maxR (D.L c) (Int.toNat (0 : Int)) (List.length (D.L c) - Int.toNat (0 : Int)) (0 : Int)) = true)) (T.ite false (T.leaf [D.b false]) (T.ite ((↑(Int.toNat (D.I a)) : Int) != D.I a) (T.leaf [D.b false]) (T.ite ((↑(Int.toNat (D.I a)) : Int) != D.I a) (T.leaf [D.b false]) (T.need (yes ((0 : Int) ≤ D.I a ∧ D.I a ≤ (500 : Int) ∧ (↑(Int.toNat (D.I a)) : Int) = D.I a ∧ (↑(Int.toNat (D.I a)) : Int) = D.I a ∧ (↑(List.length (D.L c)) : Int) = D.I a ∧ (↑(List.length (firstR (D.I a) (D.L b)).fst) : Int) = D.I a ∧ (↑(List.length (latR (D.I a) (allL (D.I a) (D.L b)) (maxR (D.L c) (Int.toNat (0 : Int)) (List.length (D.L c) - Int.toNat (0 : Int)) (0 : Int))).fst) : Int) = D.I a ∧ (0 : Int) ≤ (0 : Int) ∧ (0 : Int) ≤ D.I a)) (T.ite (allFrom (amidB (D.L c) (firstR (D.I a) (D.L b)).fst (latR (D.I a) (allL (D.I a) (D.L b)) (maxR (D.L c) (Int.toNat (0 : Int)) (List.length (D.L c) - Int.toNat (0 : Int)) (0 : Int))).fst) (Int.toNat (0 : Int)) (Int.toNat (D.I a) - Int.toNat (0 : Int))) (T.leaf [D.b true]) (T.leaf [D.b false]))))))))))) (T.ite (!(netOk (D.I a) (D.L b) && keepsB (D.I a) (D.L b) (D.L c))) (T.ite true (T.leaf [D.b true]) (T.ite false (T.leaf [D.b true]) (T.leaf [D.b false]))) (T.need (yes (List.length (D.L b) < big ∧ latOk (D.I a) (D.L b) (maxR (D.L c) (Int.toNat (0 : Int)) (List.length (D.L c) - Int.toNat (0 : Int)) (0 : Int)) = true)) (T.ite false (T.leaf [D.b false]) (T.ite ((↑(Int.toNat (D.I a)) : Int) != D.I a) (T.leaf [D.b false]) (T.ite ((↑(Int.toNat (D.I a)) : Int) != D.I a) (T.leaf [D.b false]) (T.need (yes ((0 : Int) ≤ D.I a ∧ D.I a ≤ (500 : Int) ∧ (↑(Int.toNat (D.I a)) : Int) = D.I a ∧ (↑(Int.toNat (D.I a)) : Int) = D.I a ∧ (↑(List.length (D.L c)) : Int) = D.I a ∧ (↑(List.length (firstR (D.I a) (D.L b)).fst) : Int) = D.I a ∧ (↑(List.length (latR (D.I a) (allL (D.I a) (D.L b)) (maxR (D.L c) (Int.toNat (0 : Int)) (List.length (D.L c) - Int.toNat (0 : Int)) (0 : Int))).fst) : Int) = D.I a ∧ (0 : Int) ≤ (0 : Int) ∧ (0 : Int) ≤ D.I a)) (T.ite (allFrom (amidB (D.L c) (firstR (D.I a) (D.L b)).fst (latR (D.I a) (allL (D.I a) (D.L b)) (maxR (D.L c) (Int.toNat (0 : Int)) (List.length (D.L c) - Int.toNat (0 : Int)) (0 : Int))).fst) (Int.toNat (0 : Int)) (Int.toNat (D.I a) - Int.toNat (0 : Int))) (T.leaf [D.b true]) (T.leaf [D.b false]))))))))))) (T.ite true (T.ite (netOk (D.I a) (D.L b) && provesB (D.I a) (allL (D.I a) (D.L b)) (D.L d)) (T.leaf [D.b false]) (T.need (decide (Int.toNat (D.I a) ≤ List.length (firstR (D.I a) (D.L b)).fst)) (T.need (yes (List.length (D.L b) < big ∧ List.length (List.take (Int.toNat (D.I a)) (firstR (D.I a) (D.L b)).fst) < big ∧ ∀ (j : Nat), rg (List.take (Int.toNat (D.I a)) (firstR (D.I a) (D.L b)).fst) j < (9223372036854775808 : Int))) (T.ite (!(netOk (D.I a) (D.L b) && keepsB (D.I a) (D.L b) (List.take (Int.toNat (D.I a)) (firstR (D.I a) (D.L b)).fst))) (T.leaf [D.b false]) (T.ite false (T.ite (netOk (D.I a) (D.L b) && keepsB (D.I a) (D.L b) (D.L c)) (T.leaf [D.b false]) (T.need (yes (List.length (D.L b) < big)) (T.ite (!(netOk (D.I a) (D.L b) && provesB (D.I a) (allL (D.I a) (D.L b)) [])) (T.leaf [D.b false]) (T.ite (!(netOk (D.I a) (D.L b) && keepsB (D.I a) (D.L b) (D.L c))) (T.ite true (T.leaf [D.b true]) (T.ite false (T.leaf [D.b true]) (T.leaf [D.b false]))) (T.need (yes (List.length (D.L b) < big ∧ latOk (D.I a) (D.L b) (maxR (D.L c) (Int.toNat (0 : Int)) (List.length (D.L c) - Int.toNat (0 : Int)) (0 : Int)) = true)) (T.ite false (T.leaf [D.b false]) (T.ite ((↑(Int.toNat (D.I a)) : Int) != D.I a) (T.leaf [D.b false]) (T.ite ((↑(Int.toNat (D.I a)) : Int) != D.I a) (T.leaf [D.b false]) (T.need (yes ((0 : Int) ≤ D.I a ∧ D.I a ≤ (500 : Int) ∧ (↑(Int.toNat (D.I a)) : Int) = D.I a ∧ (↑(Int.toNat (D.I a)) : Int) = D.I a ∧ (↑(List.length (D.L c)) : Int) = D.I a ∧ (↑(List.length (firstR (D.I a) (D.L b)).fst) : Int) = D.I a ∧ (↑(List.length (latR (D.I a) (allL (D.I a) (D.L b)) (maxR (D.L c) (Int.toNat (0 : Int)) (List.length (D.L c) - Int.toNat (0 : Int)) (0 : Int))).fst) : Int) = D.I a ∧ (0 : Int) ≤ (0 : Int) ∧ (0 : Int) ≤ D.I a)) (T.ite (allFrom (amidB (D.L c) (firstR (D.I a) (D.L b)).fst (latR (D.I a) (allL (D.I a) (D.L b)) (maxR (D.L c) (Int.toNat (0 : Int)) (List.length (D.L c) - Int.toNat (0 : Int)) (0 : Int))).fst) (Int.toNat (0 : Int)) (Int.toNat (D.I a) - Int.toNat (0 : Int))) (T.leaf [D.b true]) (T.leaf [D.b false]))))))))))) (T.ite (!(netOk (D.I a) (D.L b) && keepsB (D.I a) (D.L b) (D.L c))) (T.ite true (T.leaf [D.b true]) (T.ite false (T.leaf [D.b true]) (T.leaf [D.b false]))) (T.need (yes (List.length (D.L b) < big ∧ latOk (D.I a) (D.L b) (maxR (D.L c) (Int.toNat (0 : Int)) (List.length (D.L c) - Int.toNat (0 : Int)) (0 : Int)) = true)) (T.ite false (T.leaf [D.b false]) (T.ite ((↑(Int.toNat (D.I a)) : Int) != D.I a) (T.leaf [D.b false]) (T.ite ((↑(Int.toNat (D.I a)) : Int) != D.I a) (T.leaf [D.b false]) (T.need (yes ((0 : Int) ≤ D.I a ∧ D.I a ≤ (500 : Int) ∧ (↑(Int.toNat (D.I a)) : Int) = D.I a ∧ (↑(Int.toNat (D.I a)) : Int) = D.I a ∧ (↑(List.length (D.L c)) : Int) = D.I a ∧ (↑(List.length (firstR (D.I a) (D.L b)).fst) : Int) = D.I a ∧ (↑(List.length (latR (D.I a) (allL (D.I a) (D.L b)) (maxR (D.L c) (Int.toNat (0 : Int)) (List.length (D.L c) - Int.toNat (0 : Int)) (0 : Int))).fst) : Int) = D.I a ∧ (0 : Int) ≤ (0 : Int) ∧ (0 : Int) ≤ D.I a)) (T.ite (allFrom (amidB (D.L c) (firstR (D.I a) (D.L b)).fst (latR (D.I a) (allL (D.I a) (D.L b)) (maxR (D.L c) (Int.toNat (0 : Int)) (List.length (D.L c) - Int.toNat (0 : Int)) (0 : Int))).fst) (Int.toNat (0 : Int)) (Int.toNat (D.I a) - Int.toNat (0 : Int))) (T.leaf [D.b true]) (T.leaf [D.b false]))))))))))))) (T.ite false (T.ite (netOk (D.I a) (D.L b) && keepsB (D.I a) (D.L b) (D.L c)) (T.leaf [D.b false]) (T.need (yes (List.length (D.L b) < big)) (T.ite (!(netOk (D.I a) (D.L b) && provesB (D.I a) (allL (D.I a) (D.L b)) [])) (T.leaf [D.b false]) (T.ite (!(netOk (D.I a) (D.L b) && keepsB (D.I a) (D.L b) (D.L c))) (T.ite true (T.leaf [D.b true]) (T.ite false (T.leaf [D.b true]) (T.leaf [D.b false]))) (T.need (yes (List.length (D.L b) < big ∧ latOk (D.I a) (D.L b) (maxR (D.L c) (Int.toNat (0 : Int)) (List.length (D.L c) - Int.toNat (0 : Int)) (0 : Int)) = true)) (T.ite false (T.leaf [D.b false]) (T.ite ((↑(Int.toNat (D.I a)) : Int) != D.I a) (T.leaf [D.b false]) (T.ite ((↑(Int.toNat (D.I a)) : Int) != D.I a) (T.leaf [D.b false]) (T.need (yes ((0 : Int) ≤ D.I a ∧ D.I a ≤ (500 : Int) ∧ (↑(Int.toNat (D.I a)) : Int) = D.I a ∧ (↑(Int.toNat (D.I a)) : Int) = D.I a ∧ (↑(List.length (D.L c)) : Int) = D.I a ∧ (↑(List.length (firstR (D.I a) (D.L b)).fst) : Int) = D.I a ∧ (↑(List.length (latR (D.I a) (allL (D.I a) (D.L b)) (maxR (D.L c) (Int.toNat (0 : Int)) (List.length (D.L c) - Int.toNat (0 : Int)) (0 : Int))).fst) : Int) = D.I a ∧ (0 : Int) ≤ (0 : Int) ∧ (0 : Int) ≤ D.I a)) (T.ite (allFrom (amidB (D.L c) (firstR (D.I a) (D.L b)).fst (latR (D.I a) (allL (D.I a) (D.L b)) (maxR (D.L c) (Int.toNat (0 : Int)) (List.length (D.L c) - Int.toNat (0 : Int)) (0 : Int))).fst) (Int.toNat (0 : Int)) (Int.toNat (D.I a) - Int.toNat (0 : Int))) (T.leaf [D.b true]) (T.leaf [D.b false]))))))))))) (T.ite (!(netOk (D.I a) (D.L b) && keepsB (D.I a) (D.L b) (D.L c))) (T.ite true (T.leaf [D.b true]) (T.ite false (T.leaf [D.b true]) (T.leaf [D.b false]))) (T.need (yes (List.length (D.L b) < big ∧ latOk (D.I a) (D.L b) (maxR (D.L c) (Int.toNat (0 : Int)) (List.length (D.L c) - Int.toNat (0 : Int)) (0 : Int)) = true)) (T.ite false (T.leaf [D.b false]) (T.ite ((↑(Int.toNat (D.I a)) : Int) != D.I a) (T.leaf [D.b false]) (T.ite ((↑(Int.toNat (D.I a)) : Int) != D.I a) (T.leaf [D.b false]) (T.need (yes ((0 : Int) ≤ D.I a ∧ D.I a ≤ (500 : Int) ∧ (↑(Int.toNat (D.I a)) : Int) = D.I a ∧ (↑(Int.toNat (D.I a)) : Int) = D.I a ∧ (↑(List.length (D.L c)) : Int) = D.I a ∧ (↑(List.length (firstR (D.I a) (D.L b)).fst) : Int) = D.I a ∧ (↑(List.length (latR (D.I a) (allL (D.I a) (D.L b)) (maxR (D.L c) (Int.toNat (0 : Int)) (List.length (D.L c) - Int.toNat (0 : Int)) (0 : Int))).fst) : Int) = D.I a ∧ (0 : Int) ≤ (0 : Int) ∧ (0 : Int) ≤ D.I a)) (T.ite (allFrom (amidB (D.L c) (firstR (D.I a) (D.L b)).fst (latR (D.I a) (allL (D.I a) (D.L b)) (maxR (D.L c) (Int.toNat (0 : Int)) (List.length (D.L c) - Int.toNat (0 : Int)) (0 : Int))).fst) (Int.toNat (0 : Int)) (Int.toNat (D.I a) - Int.toNat (0 : Int))) (T.leaf [D.b true]) (T.leaf [D.b false])))))))))))))) (T.leaf [D.b true])))))))) := by kernel_rfl
theorem t1008_5 (a b c d e f : D) : roundT C tab1008 8 (loopOf C.P 8 5) l1008_5 [a, b, c, d, e, f] =
  T.ite (decide (D.I f < (↑(List.length (D.L c)) : Int))) (T.need (decide ((0 : Int) ≤ D.I f ∧ D.I f < (↑(List.length (D.L c)) : Int))) (T.ite (decide (D.I (List.getD (List.getD (D.L c) (Int.toNat (D.I f)) []) 0 default) < (0 : Int))) (T.leaf (Rd.out Ex.ret [D.b true])) (T.need (decide ((0 : Int) ≤ D.I f ∧ D.I f < (↑(List.length (D.L c)) : Int))) (T.ite (decide (D.I (List.getD (List.getD (D.L c) (Int.toNat (D.I f)) []) 0 default) > (1000000000 : Int))) (T.leaf (Rd.out Ex.ret [D.b true])) (T.need (decide ((0 : Int) ≤ D.I f ∧ D.I f < (↑(List.length (D.L c)) : Int))) (T.leaf (Rd.again [D.i (D.I a), D.l (D.L b), D.l (D.L c), D.l (D.L d), D.i (if D.I (List.getD (List.getD (D.L c) (Int.toNat (D.I f)) []) 0 default) > D.I e then D.I (List.getD (List.getD (D.L c) (Int.toNat (D.I f)) []) 0 default) else D.I e), D.i (IntKind.wrap IntKind.i64 (D.I f + (1 : Int)))]))))))) (T.leaf (Rd.out (Ex.exit 0) [D.i (D.I a), D.l (D.L b), D.l (D.L c), D.l (D.L d), D.i (D.I e)])) := by kernel_rfl
theorem t1008_20 (a b c d e f g : D) : roundT C tab1008 8 (loopOf C.P 8 20) l1008_20 [a, b, c, d, e, f, g] =
  T.ite (decide (D.I e < D.I a)) (T.need (decide ((0 : Int) ≤ D.I e ∧ D.I e < (↑(List.length (D.L b)) : Int))) (T.need (decide ((0 : Int) ≤ D.I e ∧ D.I e < (↑(Int.toNat (D.I c)) : Int))) (T.need (decide (Int.toNat (D.I e) < List.length (D.L f))) (T.ite (decide (D.I (List.getD (List.getD (D.L b) (Int.toNat (D.I e)) []) 0 default) < D.I (List.getD (List.getD (D.L f) (Int.toNat (D.I e)) []) 0 default))) (T.leaf (Rd.out Ex.ret [D.b false])) (T.need (decide ((0 : Int) ≤ D.I e ∧ D.I e < (↑(List.length (D.L b)) : Int))) (T.need (decide ((0 : Int) ≤ D.I e ∧ D.I e < (↑(Int.toNat (D.I d)) : Int))) (T.need (decide (Int.toNat (D.I e) < List.length (D.L g))) (T.ite (decide (D.I (List.getD (List.getD (D.L b) (Int.toNat (D.I e)) []) 0 default) > D.I (List.getD (List.getD (D.L g) (Int.toNat (D.I e)) []) 0 default))) (T.leaf (Rd.out Ex.ret [D.b false])) (T.leaf (Rd.again [D.i (D.I a), D.l (D.L b), D.i (↑(Int.toNat (D.I c)) : Int), D.i (↑(Int.toNat (D.I d)) : Int), D.i (IntKind.wrap IntKind.i64 (D.I e + (1 : Int))), D.l (D.L f), D.l (D.L g)])))))))))) (T.leaf (Rd.out (Ex.exit 2) [])) := by kernel_rfl
theorem t2008 (a b c d : D) : fnT C tab2008 8 s2008 [a, b, c, d] =
  T.ite (decide (D.I a > (12 : Int))) (T.leaf [D.b true]) (T.ite (decide ((↑(List.length (D.L b)) : Int) > (30 : Int))) (T.leaf [D.b true]) (T.need (yes (List.length (D.L b) < big)) (T.ite (!netOk (D.I a) (D.L b)) (T.leaf [D.b true]) (T.ite (decide ((↑(List.length (D.L c)) : Int) > (12 : Int))) (T.leaf [D.b true]) (T.ite (decide ((↑(List.length (D.L d)) : Int) > (40 : Int))) (T.leaf [D.b true]) (T.need (yes (List.length (D.L c) < big ∧ (0 : Int) ≤ (0 : Int) ∧ (0 : Int) ≤ (↑(List.length (D.L c)) : Int))) (T.ite (allFrom (dayB (D.L c)) (Int.toNat (0 : Int)) (List.length (D.L c) - Int.toNat (0 : Int))) (T.need (yes (List.length (D.L b) < big ∧ netOk (D.I a) (D.L b) = true ∧ ¬(firstR (D.I a) (D.L b)).snd.snd < (0 : Int))) (T.need (yes (List.length (D.L b) < big ∧ List.length (D.L c) < big ∧ ∀ (j : Nat), rg (D.L c) j < (9223372036854775808 : Int))) (T.need (yes (List.length (D.L b) < big)) (T.ite (netOk (D.I a) (D.L b) && keepsB (D.I a) (D.L b) (D.L c)) (T.ite (netOk (D.I a) (D.L b) && provesB (D.I a) (allL (D.I a) (D.L b)) (D.L d)) (T.leaf [D.b false]) (T.ite false (T.ite (netOk (D.I a) (D.L b) && provesB (D.I a) (allL (D.I a) (D.L b)) (D.L d)) (T.leaf [D.b false]) (T.need (yes (List.length (D.L b) < big ∧ List.length ([] : List (List D)) < big ∧ ∀ (j : Nat), rg [] j < (9223372036854775808 : Int))) (T.ite (!(netOk (D.I a) (D.L b) && keepsB (D.I a) (D.L b) [])) (T.leaf [D.b false]) (T.ite true (T.ite (netOk (D.I a) (D.L b) && keepsB (D.I a) (D.L b) (D.L c)) (T.leaf [D.b false]) (T.need (decide (Int.toNat (↑(List.length (proofR (D.I a) (allL (D.I a) (D.L b)))) : Int) ≤ List.length (proofR (D.I a) (allL (D.I a) (D.L b))))) (T.need (yes (List.length (D.L b) < big)) (T.ite (!(netOk (D.I a) (D.L b) && provesB (D.I a) (allL (D.I a) (D.L b)) (List.take (Int.toNat (↑(List.length (proofR (D.I a) (allL (D.I a) (D.L b)))) : Int)) (proofR (D.I a) (allL (D.I a) (D.L b)))))) (T.leaf [D.b false]) (T.ite (!(netOk (D.I a) (D.L b) && keepsB (D.I a) (D.L b) (D.L c))) (T.ite false (T.leaf [D.b true]) (T.ite true (T.leaf [D.b true]) (T.leaf [D.b false]))) (T.need (yes (List.length (D.L b) < big ∧ latOk (D.I a) (D.L b) (maxR (D.L c) (Int.toNat (0 : Int)) (List.length (D.L c) - Int.toNat (0 : Int)) (0 : Int)) = true)) (T.ite false (T.leaf [D.b false]) (T.ite ((↑(Int.toNat (D.I a)) : Int) != D.I a) (T.leaf [D.b false]) (T.ite ((↑0 : Int) != D.I a) (T.leaf [D.b false]) T.fail))))))))) (T.ite (!(netOk (D.I a) (D.L b) && keepsB (D.I a) (D.L b) (D.L c))) (T.ite false (T.leaf [D.b true]) (T.ite true (T.leaf [D.b true]) (T.leaf [D.b false]))) (T.need (yes (List.length (D.L b) < big ∧ latOk (D.I a) (D.L b) (maxR (D.L c) (Int.toNat (0 : Int)) (List.length (D.L c) - Int.toNat (0 : Int)) (0 : Int)) = true)) (T.ite false (T.leaf [D.b false]) (T.ite ((↑(Int.toNat (D.I a)) : Int) != D.I a) (T.leaf [D.b false]) (T.ite ((↑0 : Int) != D.I a) (T.leaf [D.b false]) T.fail))))))))) (T.ite true (T.ite (netOk (D.I a) (D.L b) && keepsB (D.I a) (D.L b) (D.L c)) (T.leaf [D.b false]) (T.need (decide (Int.toNat (↑(List.length (proofR (D.I a) (allL (D.I a) (D.L b)))) : Int) ≤ List.length (proofR (D.I a) (allL (D.I a) (D.L b))))) (T.need (yes (List.length (D.L b) < big)) (T.ite (!(netOk (D.I a) (D.L b) && provesB (D.I a) (allL (D.I a) (D.L b)) (List.take (Int.toNat (↑(List.length (proofR (D.I a) (allL (D.I a) (D.L b)))) : Int)) (proofR (D.I a) (allL (D.I a) (D.L b)))))) (T.leaf [D.b false]) (T.ite (!(netOk (D.I a) (D.L b) && keepsB (D.I a) (D.L b) (D.L c))) (T.ite false (T.leaf [D.b true]) (T.ite true (T.leaf [D.b true]) (T.leaf [D.b false]))) (T.need (yes (List.length (D.L b) < big ∧ latOk (D.I a) (D.L b) (maxR (D.L c) (Int.toNat (0 : Int)) (List.length (D.L c) - Int.toNat (0 : Int)) (0 : Int)) = true)) (T.ite false (T.leaf [D.b false]) (T.ite ((↑(Int.toNat (D.I a)) : Int) != D.I a) (T.leaf [D.b false]) (T.ite ((↑0 : Int) != D.I a) (T.leaf [D.b false]) T.fail))))))))) (T.ite (!(netOk (D.I a) (D.L b) && keepsB (D.I a) (D.L b) (D.L c))) (T.ite false (T.leaf [D.b true]) (T.ite true (T.leaf [D.b true]) (T.leaf [D.b false]))) (T.need (yes (List.length (D.L b) < big ∧ latOk (D.I a) (D.L b) (maxR (D.L c) (Int.toNat (0 : Int)) (List.length (D.L c) - Int.toNat (0 : Int)) (0 : Int)) = true)) (T.ite false (T.leaf [D.b false]) (T.ite ((↑(Int.toNat (D.I a)) : Int) != D.I a) (T.leaf [D.b false]) (T.ite ((↑0 : Int) != D.I a) (T.leaf [D.b false]) T.fail)))))))) (T.ite false (T.ite (netOk (D.I a) (D.L b) && provesB (D.I a) (allL (D.I a) (D.L b)) (D.L d)) (T.leaf [D.b false]) (T.need (yes (List.length (D.L b) < big ∧ List.length ([] : List (List D)) < big ∧ ∀ (j : Nat), rg [] j < (9223372036854775808 : Int))) (T.ite (!(netOk (D.I a) (D.L b) && keepsB (D.I a) (D.L b) [])) (T.leaf [D.b false]) (T.ite true (T.ite (netOk (D.I a) (D.L b) && keepsB (D.I a) (D.L b) (D.L c)) (T.leaf [D.b false]) (T.need (decide (Int.toNat (↑(List.length (proofR (D.I a) (allL (D.I a) (D.L b)))) : Int) ≤ List.length (proofR (D.I a) (allL (D.I a) (D.L b))))) (T.need (yes (List.length (D.L b) < big)) (T.ite (!(netOk (D.I a) (D.L b) && provesB (D.I a) (allL (D.I a) (D.L b)) (List.take (Int.toNat (↑(List.length (proofR (D.I a) (allL (D.I a) (D.L b)))) : Int)) (proofR (D.I a) (allL (D.I a) (D.L b)))))) (T.leaf [D.b false]) (T.ite (!(netOk (D.I a) (D.L b) && keepsB (D.I a) (D.L b) (D.L c))) (T.ite false (T.leaf [D.b true]) (T.ite true (T.leaf [D.b true]) (T.leaf [D.b false]))) (T.need (yes (List.length (D.L b) < big ∧ latOk (D.I a) (D.L b) (maxR (D.L c) (Int.toNat (0 : Int)) (List.length (D.L c) - Int.toNat (0 : Int)) (0 : Int)) = true)) (T.ite false (T.leaf [D.b false]) (T.ite ((↑(Int.toNat (D.I a)) : Int) != D.I a) (T.leaf [D.b false]) (T.ite ((↑0 : Int) != D.I a) (T.leaf [D.b false]) T.fail))))))))) (T.ite (!(netOk (D.I a) (D.L b) && keepsB (D.I a) (D.L b) (D.L c))) (T.ite false (T.leaf [D.b true]) (T.ite true (T.leaf [D.b true]) (T.leaf [D.b false]))) (T.need (yes (List.length (D.L b) < big ∧ latOk (D.I a) (D.L b) (maxR (D.L c) (Int.toNat (0 : Int)) (List.length (D.L c) - Int.toNat (0 : Int)) (0 : Int)) = true)) (T.ite false (T.leaf [D.b false]) (T.ite ((↑(Int.toNat (D.I a)) : Int) != D.I a) (T.leaf [D.b false]) (T.ite ((↑0 : Int) != D.I a) (T.leaf [D.b false]) T.fail))))))))) (T.ite true (T.ite (netOk (D.I a) (D.L b) && keepsB (D.I a) (D.L b) (D.L c)) (T.leaf [D.b false]) (T.need (decide (Int.toNat (↑(List.length (proofR (D.I a) (allL (D.I a) (D.L b)))) : Int) ≤ List.length (proofR (D.I a) (allL (D.I a) (D.L b))))) (T.need (yes (List.length (D.L b) < big)) (T.ite (!(netOk (D.I a) (D.L b) && provesB (D.I a) (allL (D.I a) (D.L b)) (List.take (Int.toNat (↑(List.length (proofR (D.I a) (allL (D.I a) (D.L b)))) : Int)) (proofR (D.I a) (allL (D.I a) (D.L b)))))) (T.leaf [D.b false]) (T.ite (!(netOk (D.I a) (D.L b) && keepsB (D.I a) (D.L b) (D.L c))) (T.ite false (T.leaf [D.b true]) (T.ite true (T.leaf [D.b true]) (T.leaf [D.b false]))) (T.need (yes (List.length (D.L b) < big ∧ latOk (D.I a) (D.L b) (maxR (D.L c) (Int.toNat (0 : Int)) (List.length (D.L c) - Int.toNat (0 : Int)) (0 : Int)) = true)) (T.ite false (T.leaf [D.b false]) (T.ite ((↑(Int.toNat (D.I a)) : Int) != D.I a) (T.leaf [D.b false]) (T.ite ((↑0 : Int) != D.I a) (T.leaf [D.b false]) T.fail))))))))) (T.ite (!(netOk (D.I a) (D.L b) && keepsB (D.I a) (D.L b) (D.L c))) (T.ite false (T.leaf [D.b true]) (T.ite true (T.leaf [D.b true]) (T.leaf [D.b false]))) (T.need (yes (List.length (D.L b) < big ∧ latOk (D.I a) (D.L b) (maxR (D.L c) (Int.toNat (0 : Int)) (List.length (D.L c) - Int.toNat (0 : Int)) (0 : Int)) = true)) (T.ite false (T.leaf [D.b false]) (T.ite ((↑(Int.toNat (D.I a)) : Int) != D.I a) (T.leaf [D.b false]) (T.ite ((↑0 : Int) != D.I a) (T.leaf [D.b false]) T.fail))))))))))) (T.leaf [D.b true])))))))) := by kernel_rfl
theorem t2008_5 (a b c d e f : D) : roundT C tab2008 8 (loopOf C.P 8 5) l2008_5 [a, b, c, d, e, f] =
  T.ite (decide (D.I f < (↑(List.length (D.L c)) : Int))) (T.need (decide ((0 : Int) ≤ D.I f ∧ D.I f < (↑(List.length (D.L c)) : Int))) (T.ite (decide (D.I (List.getD (List.getD (D.L c) (Int.toNat (D.I f)) []) 0 default) < (0 : Int))) (T.leaf (Rd.out Ex.ret [D.b true])) (T.need (decide ((0 : Int) ≤ D.I f ∧ D.I f < (↑(List.length (D.L c)) : Int))) (T.ite (decide (D.I (List.getD (List.getD (D.L c) (Int.toNat (D.I f)) []) 0 default) > (1000000000 : Int))) (T.leaf (Rd.out Ex.ret [D.b true])) (T.need (decide ((0 : Int) ≤ D.I f ∧ D.I f < (↑(List.length (D.L c)) : Int))) (T.leaf (Rd.again [D.i (D.I a), D.l (D.L b), D.l (D.L c), D.l (D.L d), D.i (if D.I (List.getD (List.getD (D.L c) (Int.toNat (D.I f)) []) 0 default) > D.I e then D.I (List.getD (List.getD (D.L c) (Int.toNat (D.I f)) []) 0 default) else D.I e), D.i (IntKind.wrap IntKind.i64 (D.I f + (1 : Int)))]))))))) (T.leaf (Rd.out (Ex.exit 0) [D.i (D.I a), D.l (D.L b), D.l (D.L c), D.l (D.L d), D.i (D.I e)])) := by kernel_rfl
end Go.Proofs.Ytipbcpobnciccaa

namespace Go.Proofs.Ytipbcpobnciccaa
open Go.Lite Go.ChangeShapes Go.WideShapes Go.ChangeAt Go.RowKit

def timetableEitherLaw : Prop := ∀ xs : List AV, ArgsShape Try.prog 12 [3, 22, 25, 25] xs → ∃ n h', callA C n Unit none 8 xs [] () = some (.bool true, h', ())
theorem timetableEither_plain : ∀ t ∈ [3, 22, 25, 25], plainTy Try.prog 12 t = true := by
  intro t ht
  have h : [3, 22, 25, 25].all (plainTy Try.prog 12) = true := by kernel_rfl
  exact List.all_eq_true.1 h t ht
set_option maxRecDepth 100000 in
theorem timetableEither_lifted (law : timetableEitherLaw) (os : Os) (started : os.Started) (H : Type) (enc : TypeId × Value → H) :
    ReturnsInHanded {} Try.checked os 8 .any (Rows.timetableEitherSpec.pre6 enc Try.prog Try.f8 Rows.timetableEitherRow.domain false) (Rows.timetableEitherSpec.post enc Try.prog Try.f8 false true false false) := by
  refine returnsInHanded_of_change (C := Try.checked) own started (by kernel_rfl) Try.func8
    (ChangeSpec.witness6 (enc := enc) (C := Try.checked) false ⟨#[], #[.int .i64 0, .slice none 0 0, .slice none 0 0, .slice none 0 0], []⟩ 8 (by kernel_rfl) (by kernel_rfl) (by kernel_rfl) (by kernel_rfl)) ?_
  intro W base args ds gs before hval0 hW hcnd _
  have hval : ∀ (j : Nat) t v, Try.f8.params[j]? = some t → args[j]? = some v → Value.okWide Try.prog W .any base t v := hval0
  have hW' := hW
  obtain ⟨p, q, hA0, hV, rfl, hfz, hnd⟩ := hW
  have hA : DataW.TrodAll enc Try.prog W 0 (fun _ => true) true Try.f8.params.toList args.toList ds p := hA0
  have hAk := hA
  rw [Try.params8] at hA hval
  obtain ⟨xs, hs, hr⟩ := args_shape (J := fun _ => False) (d := 12) (fun t ht => timetableEither_plain t (by simpa using ht)) (fun j t v h1 h2 => hval j t v (by simpa using h1) (by simpa using h2)) hA
  obtain ⟨n, h', hc⟩ := law xs hs
  obtain ⟨v0, vs0, d0, ds0, p0, q0, hargs, rfl, rfl, h0, r0⟩ := trodAll_cons hA
  obtain ⟨v1, vs1, d1, ds1, p1, q1, rfl, rfl, rfl, h1, r1⟩ := trodAll_cons r0
  obtain ⟨v2, vs2, d2, ds2, p2, q2, rfl, rfl, rfl, h2, r2⟩ := trodAll_cons r1
  obtain ⟨v3, vs3, d3, ds3, p3, q3, rfl, rfl, rfl, h3, r3⟩ := trodAll_cons r2
  obtain ⟨rfl, rfl, rfl⟩ := trodAll_nil r3
  obtain rfl : args = #[v0, v1, v2, v3] := by cases args; simp_all
  obtain ⟨rfl, rfl⟩ := trodVars_none hV
  clear hA0 hval0
  simp only [List.append_nil] at hW'
  refine (law_calls (callsOk n) hc hr).mono fun e W' ⟨he, h1, h2, hk⟩ => ?_
  subst he
  have hlt : ∀ x ∈ p0 ++ p1 ++ p2 ++ p3, x.block < W.heap.size := fun x hx => hW'.lt x (by simpa [List.append_assoc] using hx)
  exact ⟨_, rfl, post_of_kept (pa := p0 ++ p1 ++ p2 ++ p3) (pv := []) hW' (fun _ _ _ => trodAll_mk1 (shut_bool Try.underlying4 _))
    (fun sp hsp => trodAll_carry (DataW.TrodAll.respare kids full (by rw [Try.params8]; decide) (by simpa [List.append_assoc, Rows.timetableEitherSpec] using hAk) (fun x hx => hsp x (by simpa [List.append_assoc] using hx))) (fun x hx => sameAt_of (hk _ (hlt x hx))))
    (fun _ _ => rfl) (by simp [List.append_assoc]) h1 h2 hk (ok_one (by kernel_rfl) rfl (okWide_bool_mk Try.underlying4 _))⟩
theorem timetableEither_over (law : timetableEitherLaw) : Rows.TimetableEitherSaid :=
  OpenClaim.holds_of_wide 8 Try.f8 rfl rfl rfl rfl rfl rfl rfl ⟨rfl, rfl, rfl, rfl, rfl⟩ rfl rfl rfl rfl rfl (by kernel_rfl) Try.func8 (by kernel_rfl)
    (of_decide_eq_true (by kernel_rfl)) (by unfold Func.isWrapper; first | (rw [if_pos (by decide +kernel)]; kernel_rfl) | (rw [if_neg (by decide +kernel)]; exact ⟨rfl, rfl⟩))
    (fun os started H enc _ => timetableEither_lifted law os started H enc)
end Go.Proofs.Ytipbcpobnciccaa

namespace Go.Proofs.Ytipbcpobnciccaa
open Go.Lite
set_option maxRecDepth 100000
theorem ok1028 (n : Nat) : FnOK C (n + 6) 28 (mkF s1028 G1028) := fn_cut 1 (ok28 n) (by decide) rfl fun ds r h => by
  unfold G1028 at h
  split at h
  · rename_i n l
    obtain ⟨hp, h⟩ := need_some h
    rw [yes_iff] at hp
    obtain ⟨h1, h2, h3⟩ := hp
    cases h
    exact go_yes h1 (go_true h2 (go_pos h3 rfl))
  · cases h
theorem ok2028 (n : Nat) : FnOK C (n + 6) 28 (mkF s2028 G2028) := fn_cut 2 (ok28 n) (by decide) rfl fun ds r h => by
  unfold G2028 at h
  split at h
  · rename_i n l
    obtain ⟨hp, h⟩ := need_some h
    rw [yes_iff] at hp
    obtain ⟨h1, h2, h3⟩ := hp
    cases h
    exact go_yes h1 (go_true h2 (go_neg h3 rfl))
  · cases h
/-- What a chain weighs is not more than the time between its ends, where times keep all links. -/
theorem weigh_kept {n : Int} {a c : List (List D)} {q : Nat → Int} (hq : (netN n a).kept q) : ∀ (k i : Nat) (s v s' v' : Int), weighF a c i k s v = (true, s', v') → s' - s ≤ q v'.toNat - q v.toNat
  | 0, _, s, v, s', v', h => by
    simp only [weighF, Prod.mk.injEq, true_and] at h
    obtain ⟨rfl, rfl⟩ := h
    omega
  | k + 1, i, s, v, s', v', h => by
    simp only [weighF] at h
    split at h
    · rename_i hc
      obtain ⟨⟨c1, c2⟩, c3⟩ := hc
      have h1 := weigh_kept hq k (i + 1) _ _ _ _ h
      have h2 := hq (rg c i).toNat (show (rg c i).toNat < a.length by omega)
      simp only [netN] at h2
      rw [c3] at h2
      omega
    · cases h
theorem no_proof {n : Int} {a c : List (List D)} {q : Nat → Int} (hq : (netN n a).kept q) : provesB n a c = false := by
  rw [← Bool.not_eq_true]
  intro h
  unfold provesB at h
  simp only [Bool.and_eq_true, decide_eq_true_eq, beq_iff_eq] at h
  obtain ⟨-, -, h1, h2, h3⟩ := h
  generalize hw : weighF a c 0 c.length 0 (lkF a (rg c 0).toNat) = r at h1 h2 h3
  obtain ⟨r1, r2, r3⟩ := r
  simp only at h1 h2 h3
  subst h1
  have := weigh_kept hq _ _ _ _ _ _ hw
  rw [h2] at this
  omega
theorem keeps_iff {n : Int} {l w : List (List D)} (h : keepsB n l w = true) : (w.length : Int) = n ∧ (∀ j, 0 ≤ rg w j) ∧ rg w 0 = 0 ∧ (netN n (allL n l)).kept (rg w) := by
  unfold keepsB at h
  simp only [Bool.and_eq_true, decide_eq_true_eq, allFrom_iff, beq_iff_eq] at h
  obtain ⟨h1, h2, h3, h4⟩ := h
  refine ⟨h1, fun j => ?_, h3, fun j hj => ?_⟩
  · by_cases hj : j < w.length
    · have := h2 j (Nat.zero_le _) (by omega)
      simp only [Bool.not_eq_true', decide_eq_false_iff_not] at this
      omega
    · rw [rg_ge (by omega)]; exact Int.le_refl _
  · have := h4 j (Nat.zero_le _) (by simp only [netN] at hj; omega)
    simp only [netN]
    unfold keptF at this
    have := of_decide_eq_true this
    omega
theorem ok1008_5 : LoopSim C 12 8 (loopOf C.P 8 5) (mkL l1008_5 G1008_5) := by
  refine loop_ofK hC (sp := sp1008) (lp := lp1008) (sw := sw1008) ⟨ok18 10, ok16, ok1028 6, ok31 6, ok30 6, ok1033 5, trivial⟩ trivial 0 [] (by kernel_rfl) rfl (fun k hk => by cases hk) (by kernel_rfl) (fun ds => (((ds.getD 2 default).L.length : Int) - (ds.getD 5 default).I).toNat) fun ds rr h => ?_
  unfold G1008_5 at h
  split at h
  · rename_i n l t c x i
    obtain ⟨hp, h⟩ := need_some h
    rw [yes_iff] at hp
    obtain ⟨h1, h2, h3⟩ := hp
    have hb := big_eq
    refine ⟨by rw [fuelC]; simp; omega, ?_⟩
    rw [show roundTK C (mkTab sp1008 lp1008 sw1008) 8 (loopOf C.P 8 5) 0 l1008_5 [n, l, t, c, x, i] = _ from t1008_5 n l t c x i]
    obtain ⟨j, hj⟩ : ∃ j : Nat, i.I = j := ⟨i.I.toNat, by omega⟩
    simp only [hj, Int.toNat_natCast, rg_def, max_if] at h h2 h3 ⊢
    refine rd_if (fun hlt => ?_) fun hge => rd_out ?_
    · have e : t.L.length - j = (t.L.length - (j + 1)) + 1 := by omega
      rw [e] at h
      simp only [allFrom, maxR] at h
      refine rd_dec (by omega) (rd_if (fun c1 => rd_out ?_) fun c1 => rd_dec (by omega) (rd_if (fun c2 => rd_out ?_) fun c2 => rd_dec (by omega) ?_))
      · rw [show dayB t.L j = false by unfold dayB; rw [decide_eq_true c1]; rfl, Bool.false_and] at h
        exact h
      · rw [show dayB t.L j = false by unfold dayB; rw [decide_eq_true c2, Bool.and_comm]; rfl, Bool.false_and] at h
        exact h
      · rw [show dayB t.L j = true by unfold dayB; rw [decide_eq_false c1, decide_eq_false c2]; rfl, Bool.true_and] at h
        rw [wrap_succ (by omega)]
        refine rd_again ((need_yes ⟨h1, by simp only [I_i]; omega, by simp only [I_i, L_l]; omega⟩).trans ?_) (show ((t.L.length : Int) - ((j + 1 : Nat) : Int)).toNat < ((t.L.length : Int) - i.I).toNat by omega)
        exact h
    · rw [show t.L.length - j = 0 by omega] at h
      exact h
  · cases h
theorem ok1008_20 : LoopSim C 12 8 (loopOf C.P 8 20) (mkL l1008_20 G1008_20) := by
  refine loop_ofK hC (sp := sp1008) (lp := lp1008) (sw := sw1008) ⟨ok18 10, ok16, ok1028 6, ok31 6, ok30 6, ok1033 5, trivial⟩ trivial 0 [] (by kernel_rfl) rfl (fun k hk => by cases hk) (by kernel_rfl) (fun ds => ((ds.getD 0 default).I - (ds.getD 4 default).I).toNat) fun ds rr h => ?_
  unfold G1008_20 at h
  split at h
  · rename_i n w p q i t l
    obtain ⟨hp, h⟩ := need_some h
    rw [yes_iff] at hp
    obtain ⟨hn0, hn1, h2, h3, h4, h5, h6, hi0, hi1⟩ := hp
    have hb := big_eq
    refine ⟨by rw [fuelC]; simp; omega, ?_⟩
    rw [show roundTK C (mkTab sp1008 lp1008 sw1008) 8 (loopOf C.P 8 20) 0 l1008_20 [n, w, p, q, i, t, l] = _ from t1008_20 n w p q i t l]
    obtain ⟨j, hj⟩ : ∃ j : Nat, i.I = j := ⟨i.I.toNat, by omega⟩
    obtain ⟨m, hm⟩ : ∃ m : Nat, n.I = m := ⟨n.I.toNat, by omega⟩
    simp only [hj, hm, Int.toNat_natCast, rg_def] at h hn0 hn1 h2 h3 h4 h5 h6 hi0 hi1 ⊢
    refine rd_if (fun hlt => ?_) fun hge => rd_out (all_end h (by omega))
    obtain ⟨z1, z2⟩ := all_step h (by omega)
    rw [wrap_succ (by omega)]
    refine rd_dec (by omega) (rd_dec (by omega) (rd_dec (by omega) ?_))
    refine rd_if (fun c1 => rd_out (z1 (by unfold amidB; rw [decide_eq_true c1]; rfl))) fun c1 => rd_dec (by omega) (rd_dec (by omega) (rd_dec (by omega) ?_))
    refine rd_if (fun c2 => rd_out (z1 (by unfold amidB; rw [decide_eq_true c2, Bool.and_comm]; rfl))) fun c2 => ?_
    have z3 := z2 (by unfold amidB; rw [decide_eq_false c1, decide_eq_false c2]; rfl)
    refine rd_again ((need_yes ⟨by simp only [I_i]; omega, by simp only [I_i]; omega, by simp only [I_i]; omega, by simp only [I_i]; omega, h4, h5, h6, by simp only [I_i]; omega, by simp only [I_i]; omega⟩).trans ?_) ?_
    · simp only [I_i, L_l, Int.toNat_natCast]
      exact z3
    · simp only [List.getD_cons_zero, List.getD_cons_succ, I_i, hj, hm]
      omega
  · cases h
theorem ok2008_5 : LoopSim C 12 8 (loopOf C.P 8 5) (mkL l2008_5 G2008_5) := by
  refine loop_ofK hC (sp := sp2008) (lp := lp2008) (sw := sw2008) ⟨ok18 10, ok16, ok2028 6, ok31 6, ok30 6, ok1033 5, trivial⟩ trivial 0 [] (by kernel_rfl) rfl (fun k hk => by cases hk) (by kernel_rfl) (fun ds => (((ds.getD 2 default).L.length : Int) - (ds.getD 5 default).I).toNat) fun ds rr h => ?_
  unfold G2008_5 G1008_5 at h
  split at h
  · rename_i n l t c x i
    obtain ⟨hp, h⟩ := need_some h
    rw [yes_iff] at hp
    obtain ⟨h1, h2, h3⟩ := hp
    have hb := big_eq
    refine ⟨by rw [fuelC]; simp; omega, ?_⟩
    rw [show roundTK C (mkTab sp2008 lp2008 sw2008) 8 (loopOf C.P 8 5) 0 l2008_5 [n, l, t, c, x, i] = _ from t2008_5 n l t c x i]
    obtain ⟨j, hj⟩ : ∃ j : Nat, i.I = j := ⟨i.I.toNat, by omega⟩
    simp only [hj, Int.toNat_natCast, rg_def, max_if] at h h2 h3 ⊢
    refine rd_if (fun hlt => ?_) fun hge => rd_out ?_
    · have e : t.L.length - j = (t.L.length - (j + 1)) + 1 := by omega
      rw [e] at h
      simp only [allFrom, maxR] at h
      refine rd_dec (by omega) (rd_if (fun c1 => rd_out ?_) fun c1 => rd_dec (by omega) (rd_if (fun c2 => rd_out ?_) fun c2 => rd_dec (by omega) ?_))
      · rw [show dayB t.L j = false by unfold dayB; rw [decide_eq_true c1]; rfl, Bool.false_and] at h
        exact h
      · rw [show dayB t.L j = false by unfold dayB; rw [decide_eq_true c2, Bool.and_comm]; rfl, Bool.false_and] at h
        exact h
      · rw [show dayB t.L j = true by unfold dayB; rw [decide_eq_false c1, decide_eq_false c2]; rfl, Bool.true_and] at h
        rw [wrap_succ (by omega)]
        refine rd_again ((need_yes ⟨h1, by simp only [I_i]; omega, by simp only [I_i, L_l]; omega⟩).trans ?_) (show ((t.L.length : Int) - ((j + 1 : Nat) : Int)).toNat < ((t.L.length : Int) - i.I).toNat by omega)
        exact h
    · rw [show t.L.length - j = 0 by omega] at h
      exact h
  · cases h
theorem law8a {a b c d : D} (hpush : (firstR a.I b.L).2.2 < 0) : (fnT C tab1008 8 s1008 [a, b, c, d]).run = some [D.b true] := by
  have hbig := big_eq
  refine (congrArg T.run (t1008 a b c d)).trans ?_
  refine go_if (fun _ => rfl) fun c1 => go_if (fun _ => rfl) fun c2 => ?_
  have hb : b.L.length < big := by omega
  refine go_yes hb (go_not (fun _ => rfl) fun hn => go_if (fun _ => rfl) fun c3 => go_if (fun _ => rfl) fun c4 => go_yes ⟨by omega, by omega, by omega⟩ (go_ite (fun hd => ?_) fun _ => rfl))
  have hp : netP a.I b.L := hn
  obtain ⟨k1, k2, k3, k4⟩ := net_of hp
  have hl := good_all hp
  have hla := len_allL a.I b.L
  have hday : ∀ j, 0 ≤ rg c.L j ∧ rg c.L j ≤ 1000000000 := fun j => by
    by_cases hj : j < c.L.length
    · rw [allFrom_iff] at hd
      have := hd j (Nat.zero_le _) (by have : (0 : Int).toNat = 0 := rfl; omega)
      unfold dayB at this
      simp only [Bool.and_eq_true, Bool.not_eq_true', decide_eq_false_iff_not] at this
      omega
    · rw [rg_ge (by omega)]; omega
  obtain ⟨f0, f1⟩ : (∀ j, 0 ≤ rg (firstR a.I b.L).1 j) ∧ (firstR a.I b.L).1.length = a.I.toNat := push_first hp hpush
  have hkp : (netN a.I (allL a.I b.L)).kept (rg (firstR a.I b.L).1) := kept_push hl (len_zeros a.I) hpush
  have hno : (netOk a.I b.L && provesB a.I (allL a.I b.L) d.L) = false := by rw [no_proof hkp, Bool.and_false]
  have ht : List.take a.I.toNat (firstR a.I b.L).1 = (firstR a.I b.L).1 := List.take_of_length_le (by omega)
  have hkt := keeps_push hp hpush
  have hmx : ∀ j, rg (firstR a.I b.L).1 j < 9223372036854775808 := fun j => room_push hl j
  refine go_yes ⟨hb, hn, hpush⟩ (go_yes ⟨hb, by omega, fun j => by have := hday j; omega⟩ (go_yes hb ?_))
  by_cases hk : keepsB a.I b.L c.L = true
  · have hnk : (netOk a.I b.L && keepsB a.I b.L c.L) = true := by rw [hn, hk]; rfl
    obtain ⟨g1, g2, g3, g4⟩ := keeps_iff hk
    refine go_true hnk (go_false hno (go_true rfl (go_false hno (go_dec (by omega) ?_))))
    rw [ht]
    refine go_yes ⟨hb, by omega, hmx⟩ (go_notT (by rw [hn, hkt]; rfl) (go_false rfl (go_notT hnk ?_)))
    generalize hx : maxR c.L (0 : Int).toNat (c.L.length - (0 : Int).toNat) 0 = x
    have hx1 := (maxR_le (l := c.L) (x := x) (c.L.length - (0 : Int).toNat) (0 : Int).toNat 0).1 (by omega)
    obtain ⟨hx0, hxj⟩ := hx1
    have hxm : x ≤ 1000000000 := by
      rw [← hx, maxR_le]
      exact ⟨by omega, fun j _ _ => (hday j).2⟩
    have hxc : ∀ j, rg c.L j ≤ x := fun j => by
      by_cases hj : j < c.L.length
      · exact hxj j (Nat.zero_le _) (by have : (0 : Int).toNat = 0 := rfl; omega)
      · rw [rg_ge (by omega)]; exact hx0
    have hle : ∀ j, rg (firstR a.I b.L).1 j ≤ rg c.L j := (push_least hp g4 g2).2
    have hB : bothB a.I b.L x = true := by
      unfold bothB
      rw [Bool.and_eq_true, decide_eq_true_eq, decide_eq_true_eq]
      exact ⟨hpush, (maxL_le (l := (firstR a.I b.L).1) (by omega)).2 fun j _ => by have := hle j; have := hxc j; omega⟩
    have hLO : latOk a.I b.L x = true := by
      unfold latOk
      rw [Bool.and_eq_true, Bool.and_eq_true, within_dec, decide_eq_true_eq]
      exact ⟨⟨hn, hx0, hxm⟩, hB⟩
    have hll := len_lastR k1 x
    have hlat : (latR a.I (allL a.I b.L) x).1.length = a.I.toNat := (len_roundsL _ _ _).trans hll
    refine go_yes ⟨hb, hLO⟩ (go_false rfl (go_false (by rw [bne_eq_false_iff_eq]; omega) (go_false (by rw [bne_eq_false_iff_eq]; omega) (go_yes ⟨by omega, k2, by omega, by omega, by omega, by omega, by omega, by omega, by omega⟩ (go_true ?_ rfl)))))
    rw [allFrom_iff]
    intro j _ hj
    have h1 := hle j
    have h2 := lat_ub hl hll g4 (fun j => by
      cases j with
      | zero => rw [rg_last0, g3]; exact Int.le_refl _
      | succ j =>
        rw [rg_lastS]
        split
        · exact hxc _
        · rw [rg_ge (by omega)]; exact Int.le_refl _) a.I.toNat j
    have h3 : rg c.L j ≤ rg (latR a.I (allL a.I b.L) x).1 j := h2
    unfold amidB
    rw [decide_eq_false (by omega), decide_eq_false (by omega)]
    rfl
  · have hk' : keepsB a.I b.L c.L = false := by simpa using hk
    have hnk : (netOk a.I b.L && keepsB a.I b.L c.L) = false := by rw [hk', Bool.and_false]
    refine go_false hnk (go_true rfl (go_false hno (go_dec (by omega) ?_)))
    rw [ht]
    exact go_yes ⟨hb, by omega, hmx⟩ (go_notT (by rw [hn, hkt]; rfl) (go_false rfl (go_notF hnk (go_true rfl rfl))))
theorem law8b {a b c d : D} (hpush : ¬ (firstR a.I b.L).2.2 < 0) : (fnT C tab2008 8 s2008 [a, b, c, d]).run = some [D.b true] := by
  have hbig := big_eq
  refine (congrArg T.run (t2008 a b c d)).trans ?_
  refine go_if (fun _ => rfl) fun c1 => go_if (fun _ => rfl) fun c2 => ?_
  have hb : b.L.length < big := by omega
  refine go_yes hb (go_not (fun _ => rfl) fun hn => go_if (fun _ => rfl) fun c3 => go_if (fun _ => rfl) fun c4 => go_yes ⟨by omega, by omega, by omega⟩ (go_ite (fun hd => ?_) fun _ => rfl))
  have hp : netP a.I b.L := hn
  have hday : ∀ j, 0 ≤ rg c.L j ∧ rg c.L j ≤ 1000000000 := fun j => by
    by_cases hj : j < c.L.length
    · rw [allFrom_iff] at hd
      have := hd j (Nat.zero_le _) (by have : (0 : Int).toNat = 0 := rfl; omega)
      unfold dayB at this
      simp only [Bool.and_eq_true, Bool.not_eq_true', decide_eq_false_iff_not] at this
      omega
    · rw [rg_ge (by omega)]; omega
  have hk : keepsB a.I b.L c.L = false := by
    rw [← Bool.not_eq_true]
    intro hk
    obtain ⟨g1, g2, g3, g4⟩ := keeps_iff hk
    exact hpush (push_least hp g4 g2).1
  have hnk : (netOk a.I b.L && keepsB a.I b.L c.L) = false := by rw [hk, Bool.and_false]
  have ht : List.take ((proofR a.I (allL a.I b.L)).length : Int).toNat (proofR a.I (allL a.I b.L)) = proofR a.I (allL a.I b.L) := List.take_of_length_le (by omega)
  refine go_yes ⟨hb, hn, hpush⟩ (go_yes ⟨hb, by omega, fun j => by have := hday j; omega⟩ (go_yes hb (go_false hnk (go_false rfl (go_true rfl (go_false hnk (go_dec (by omega) ?_)))))))
  rw [ht]
  exact go_yes hb (go_notT (by rw [hn, proof_proves hp hpush]; rfl) (go_notF hnk (go_false rfl (go_true rfl rfl))))
set_option maxRecDepth 100000 in
theorem timetableEither_law : timetableEitherLaw := fun xs hx =>
  law_cases (f := 8) (ks := s1008.args) (by kernel_rfl) (ts := [3, 22, 25, 25]) (by kernel_rfl) (of_decide_eq_true (by kernel_rfl)) (m := 4) (by kernel_rfl) (fun ds hl _ => by
      match ds, hl with
      | [a, b, c, d], _ =>
        by_cases hc : (firstR a.I b.L).2.2 < 0
        · exact case_of (sp := sp1008) (lp := lp1008) (sw := sw1008) 12 ⟨ok18 10, ok16, ok1028 6, ok31 6, ok30 6, ok1033 5, trivial⟩ trivial [5, 20] (by kernel_rfl) (by kernel_rfl) (fun k hk L hL => by
            simp at hk
            rcases hk with rfl | rfl <;> cases hL
            · exact ok1008_5
            · exact ok1008_20) (law8a hc)
        · exact case_of (sp := sp2008) (lp := lp2008) (sw := sw2008) 12 ⟨ok18 10, ok16, ok2028 6, ok31 6, ok30 6, ok1033 5, trivial⟩ trivial [5, 20] (by kernel_rfl) (by kernel_rfl) (fun k hk L hL => by
            simp at hk
            rcases hk with rfl | rfl <;> cases hL
            exact ok2008_5) (law8b hc)) 12 xs hx
theorem timetable_either : Rows.TimetableEitherSaid := timetableEither_over timetableEither_law
end Go.Proofs.Ytipbcpobnciccaa
