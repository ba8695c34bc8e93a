/-
  Shapes of arguments, results and loops. Written by program.
  What the functions of earliest timetables compute.
  Tables. Written by program.
  What the rounds and the functions come to. Written by program.
  The functions of earliest timetables compute what their words say.
-/
import Derived.Test.YtipbcpobnciccaaTimGB
import Derived.Test.YtipbcpobnciccaaTimNet
namespace Go.Proofs.Ytipbcpobnciccaa
open Go.Lite
def s69 : SigW := ⟨[.k (.int .i64), .k (.ro [.int .i64, .int .i64, .int .i64]), .sl 0 1], [.row [.int .i64]], [(.k .bool, [.row [.int .i64]])]⟩
def l69_3 : LSig := mkLS [0, 2, 7, 8] [(61, [(0, .k (.int .i64)), (2, .sl 0 1), (7, .nils), (8, .k (.int .i64))], [.row [.int .i64]]), (61, [(0, .k (.int .i64)), (2, .sl 0 1), (7, .sl 1 3), (8, .k (.int .i64))], [.row [.int .i64], .row [.int .i64, .int .i64, .int .i64]])] [(.exit 0, [], [(61, [], [.row [.int .i64]])]), (.ret, [6], [(61, [(6, .k .bool)], [.row [.int .i64]])])]
def l69_7 : LSig := mkLS [0, 2, 7, 8, 9, 10] [(61, [(0, .k (.int .i64)), (2, .sl 0 1), (7, .nils), (8, .k (.int .i64)), (9, .k .bool), (10, .k (.int .i64))], [.row [.int .i64]]), (61, [(0, .k (.int .i64)), (2, .sl 0 1), (7, .sl 1 3), (8, .k (.int .i64)), (9, .k .bool), (10, .k (.int .i64))], [.row [.int .i64], .row [.int .i64, .int .i64, .int .i64]])] [(.exit 2, [0, 2, 7, 8, 9], [(61, [(0, .k (.int .i64)), (2, .sl 0 1), (7, .nils), (8, .k (.int .i64)), (9, .k .bool)], [.row [.int .i64]]), (61, [(0, .k (.int .i64)), (2, .sl 0 1), (7, .sl 1 3), (8, .k (.int .i64)), (9, .k .bool)], [.row [.int .i64], .row [.int .i64, .int .i64, .int .i64]])])]
def s36 : Sig := ⟨[.k (.int .i64), .k (.ro [.int .i64, .int .i64, .int .i64]), .k (.ro [.int .i64])], [(.tup [.nils, .k .bool], []), (.tup [.sl 0 1, .k .bool], [.row [.int .i64]])]⟩
def s19 : Sig := ⟨[.k (.int .i64), .k (.ro [.int .i64, .int .i64, .int .i64])], [(.tup [.nils, .k .bool], []), (.tup [.sl 0 1, .k .bool], [.row [.int .i64]])]⟩
def s76 : Sig := ⟨[.k (.int .i64), .eptr [.k (.ro [.int .i64])], .eptr [.eptr [.k (.int .i64), .k (.ro [.int .i64, .int .i64, .int .i64])]]], [(.k (.int .i64), [])]⟩
def s50 : Sig := ⟨[.eptr [.k (.int .i64), .k (.ro [.int .i64, .int .i64, .int .i64])]], [(.tup [.sl 0 1, .nils], [.row [.int .i64]]), (.tup [.nils, .nils], []), (.tup [.nils, .sl 0 1], [.row [.int .i64]])]⟩
def l50_7 : LSig := mkLS [1, 6, 7, 29, 30] [(71, [(1, .ptr 0 1 0 0), (6, .k (.int .i64)), (7, .fn 76 [] [.ptr 1 1 0 0, .ptr 0 1 0 0]), (29, .k (.int .i64)), (30, .k (.int .i64))], [.box [.eptr [.k (.int .i64), .k (.ro [.int .i64, .int .i64, .int .i64])]], .box [.sl 2 1], .row [.int .i64]])] [(.exit 0, [1, 6, 7], [(71, [(1, .ptr 0 1 0 0), (6, .k (.int .i64)), (7, .fn 76 [] [.ptr 1 1 0 0, .ptr 0 1 0 0])], [.box [.eptr [.k (.int .i64), .k (.ro [.int .i64, .int .i64, .int .i64])]], .box [.sl 2 1], .row [.int .i64]])])]
def l50_12 : LSig := mkLS [1, 6, 7, 8, 9] [(71, [(1, .ptr 0 1 0 0), (6, .k (.int .i64)), (7, .fn 76 [] [.ptr 1 1 0 0, .ptr 0 1 0 0]), (8, .nils), (9, .k (.int .i64))], [.box [.eptr [.k (.int .i64), .k (.ro [.int .i64, .int .i64, .int .i64])]], .box [.sl 2 1], .row [.int .i64]]), (71, [(1, .ptr 0 1 0 0), (6, .k (.int .i64)), (7, .fn 76 [] [.ptr 1 1 0 0, .ptr 0 1 0 0]), (8, .sl 2 1), (9, .k (.int .i64))], [.box [.eptr [.k (.int .i64), .k (.ro [.int .i64, .int .i64, .int .i64])]], .box [.sl 3 1], .row [.int .i64], .row [.int .i64]])] [(.exit 2, [8], [(71, [(8, .nils)], []), (71, [(8, .sl 0 1)], [.row [.int .i64]])])]
def s28 : Sig := ⟨[.k (.int .i64), .k (.ro [.int .i64, .int .i64, .int .i64])], [(.tup [.nils, .nils, .k (.int .i64)], []), (.tup [.sl 0 1, .nils, .k (.int .i64)], [.row [.int .i64]]), (.tup [.nils, .sl 0 1, .k (.int .i64)], [.row [.int .i64]])]⟩
end Go.Proofs.Ytipbcpobnciccaa

namespace Go.Proofs.Ytipbcpobnciccaa
open Go.Lite
noncomputable section

/-! ### The document's raising -/
def refR (n : Int) (l t : List (List D)) : RSt := roundsR (allL n l) (n.toNat + 1) (t, [], 0)
def refOk (n : Int) (l t : List (List D)) : Bool := decide ((refR n l t).2.2 < 0) && (rg (refR n l t).1 0 == 0)
def zeros (n : Int) : List (List D) := List.replicate n.toNat [.i 0]

/-! ### Who raised whom -/
def backI (n : Int) (l b : List (List D)) (v : Int) : Int := if rg b v.toNat < 0 then (l.length : Int) - n + v else rg b v.toNat
def predI (n : Int) (l b : List (List D)) (v : Int) : Int := lkF l (backI n l b v).toNat
def walk (n : Int) (l b : List (List D)) : Nat → Int → Int
  | 0, v => v
  | k + 1, v => walk n l b k (predI n l b v)
/-- Steps back lead from moments to moments. -/
def backOk (n : Int) (l b : List (List D)) : Prop := goodL n l ∧ (b.length : Int) = n ∧ n ≤ l.length ∧ ∀ j : Nat, (j : Int) < n → -1 ≤ rg b j ∧ rg b j < l.length
def stepsTo (n : Int) (l b : List (List D)) (v e : Int) : Nat → Nat → Nat
  | k, 0 => k
  | k, f + 1 => if v = e then k else stepsTo n l b (predI n l b v) e (k + 1) f
/-- How many steps lead from a moment to another one. -/
def dist (n : Int) (l b : List (List D)) (v e : Int) : Nat := stepsTo n l b v e 0 501
def chainF (n : Int) (l b : List (List D)) : Nat → Int → List (List D)
  | 0, _ => []
  | k + 1, v => [.i (backI n l b v)] :: chainF n l b k (predI n l b v)
/-- The circle that a moment is in. -/
def circle (n : Int) (l b : List (List D)) (v : Int) : List (List D) := [.i (backI n l b v)] :: chainF n l b (dist n l b (predI n l b v) v) (predI n l b v)
def proofR (n : Int) (l : List (List D)) : List (List D) :=
  let s := pushR n l (zeros n)
  let c := circle n l s.2.1 (walk n l s.2.1 (n.toNat + 1) s.2.2)
  revR 0 c.length c
def reaches (n : Int) (l b : List (List D)) (v e : Int) : Prop := ∃ k : Nat, k ≤ 500 ∧ walk n l b k v = e

/-! ### The functions -/
def G69 (ds : List D) : T (List D) := match ds with
  | [n, l, m, t] => .need (yes (netP n.I l.L ∧ m.I = n.I ∧ (t.L.length : Int) = n.I ∧ bndR t.L 1099511627776)) (.leaf [.b (refOk n.I l.L t.L), .l (refR n.I l.L t.L).1])
  | _ => .fail
def G69_3 (ds : List D) : T (Ex × List D) := match ds with
  | [j, n, m, q, i, t, a] => .need (yes (j.I = 1 ∧ goodL n.I a.L ∧ m.I = n.I ∧ q.I = a.L.length ∧ 0 ≤ i.I ∧ i.I ≤ n.I + 1 ∧ (t.L.length : Int) = n.I ∧ room t.L (a.L.length * (n.I + 1 - i.I))))
      (.ite (decide ((roundsR a.L (n.I + 1 - i.I).toNat (t.L, [], 0)).2.2 < 0)) (.leaf (.ret, [.b (rg (roundsR a.L (n.I + 1 - i.I).toNat (t.L, [], 0)).1 0 == 0), .l (roundsR a.L (n.I + 1 - i.I).toNat (t.L, [], 0)).1]))
        (.leaf (.exit 0, [.l (roundsR a.L (n.I + 1 - i.I).toNat (t.L, [], 0)).1])))
  | _ => .fail
def G69_7 (ds : List D) : T (Ex × List D) := match ds with
  | [j, n, m, q, r, s, i, t, a] => .need (yes (j.I = 1 ∧ goodL n.I a.L ∧ m.I = n.I ∧ q.I = a.L.length ∧ 0 ≤ i.I ∧ i.I ≤ a.L.length ∧ (t.L.length : Int) = n.I ∧ room t.L (a.L.length - i.I)))
      (.leaf (.exit 2, [.i 1, .i n.I, .i n.I, .i a.L.length, .i r.I, .b (s.B && decide ((passR a.L i.I.toNat (a.L.length - i.I.toNat) (t.L, [], -1)).2.2 < 0)), .l (passR a.L i.I.toNat (a.L.length - i.I.toNat) (t.L, [], -1)).1, .l a.L]))
  | _ => .fail
def G36 (ds : List D) : T (List D) := match ds with
  | [n, l, t] => .need (yes (netP n.I l.L ∧ (t.L.length : Int) = n.I ∧ bndR t.L 1099511627776)) (.leaf [.i 1, .i n.I, .b (refOk n.I l.L t.L), .l (refR n.I l.L t.L).1])
  | _ => .fail
def G19 (ds : List D) : T (List D) := match ds with
  | [n, l] => .need (yes (netP n.I l.L)) (.leaf [.i 1, .i n.I, .b (refOk n.I l.L (zeros n.I)), .l (refR n.I l.L (zeros n.I)).1])
  | _ => .fail
def G76 (ds : List D) : T (List D) := match ds with
  | [v, b, n, l] => .need (yes (backOk n.I l.L b.L ∧ 0 ≤ v.I ∧ v.I < n.I)) (.leaf [.i (backI n.I l.L b.L v.I)])
  | _ => .fail
def G50 (ds : List D) : T (List D) := match ds with
  | [n, l] => .need (yes (goodL n.I l.L ∧ n.I ≤ l.L.length))
      (.ite (decide ((pushR n.I l.L (zeros n.I)).2.2 < 0)) (.leaf [.i 0, .i n.I, .l (pushR n.I l.L (zeros n.I)).1]) (.leaf [.i 2, .i (proofR n.I l.L).length, .l (proofR n.I l.L)]))
  | _ => .fail
def G50_7 (ds : List D) : T (Ex × List D) := match ds with
  | [v, k, i, n, l, q, b] => .need (yes (backOk n.I l.L b.L ∧ q.I = n.I ∧ 0 ≤ v.I ∧ v.I < n.I ∧ 0 ≤ i.I ∧ i.I ≤ k.I ∧ k.I ≤ 501)) (.leaf (.exit 0, [.i (walk n.I l.L b.L (k.I - i.I).toNat v.I), .i n.I, .l l.L, .i n.I, .l b.L]))
  | _ => .fail
def G50_12 (ds : List D) : T (Ex × List D) := match ds with
  | [j, v, m, e, n, l, q, p, b] => .need (yes (j.I = 1 ∧ backOk n.I l.L b.L ∧ q.I = n.I ∧ 0 ≤ v.I ∧ v.I < n.I ∧ m.I = p.L.length ∧ 0 < p.L.length ∧ p.L.length + dist n.I l.L b.L v.I e.I ≤ 100000 ∧ reaches n.I l.L b.L v.I e.I))
      (.leaf (.exit 2, [.i 1, .i (p.L ++ chainF n.I l.L b.L (dist n.I l.L b.L v.I e.I) v.I).length, .l (p.L ++ chainF n.I l.L b.L (dist n.I l.L b.L v.I e.I) v.I)]))
  | [j, v, e, n, l, q, b] => .need (yes (j.I = 0 ∧ backOk n.I l.L b.L ∧ q.I = n.I ∧ 0 ≤ v.I ∧ v.I < n.I ∧ e.I = v.I ∧ reaches n.I l.L b.L (predI n.I l.L b.L v.I) v.I))
      (.leaf (.exit 2, [.i 1, .i (circle n.I l.L b.L v.I).length, .l (circle n.I l.L b.L v.I)]))
  | _ => .fail
def G28 (ds : List D) : T (List D) := match ds with
  | [n, l] => .need (yes (l.L.length < big)) (.ite (netOk n.I l.L)
      (.ite (decide ((pushR n.I (allL n.I l.L) (zeros n.I)).2.2 < 0)) (.leaf [.i 1, .i n.I, .i 0, .l (pushR n.I (allL n.I l.L) (zeros n.I)).1]) (.leaf [.i 2, .i (proofR n.I (allL n.I l.L)).length, .i 5, .l (proofR n.I (allL n.I l.L))]))
      (.leaf [.i 0, .i 2]))
  | _ => .fail
end
end Go.Proofs.Ytipbcpobnciccaa

namespace Go.Proofs.Ytipbcpobnciccaa
open Go.Lite
noncomputable def sp69 : SpL := [(55, mkF s55 G55)]
noncomputable def lp69 : LpL := [(3, mkLK 1 l69_3 G69_3), (7, mkLK 1 l69_7 G69_7)]
noncomputable def sw69 : SwL := []
noncomputable def tab69 : Tab := mkTab sp69 lp69 sw69
noncomputable def sp36 : SpL := []
noncomputable def lp36 : LpL := []
noncomputable def sw36 : SwL := [(69, mkFW s69 G69)]
noncomputable def tab36 : Tab := mkTab sp36 lp36 sw36
noncomputable def sp19 : SpL := [(36, mkF s36 G36)]
noncomputable def lp19 : LpL := []
noncomputable def sw19 : SwL := []
noncomputable def tab19 : Tab := mkTab sp19 lp19 sw19
noncomputable def sp76 : SpL := []
noncomputable def lp76 : LpL := []
noncomputable def sw76 : SwL := []
noncomputable def tab76 : Tab := mkTab sp76 lp76 sw76
noncomputable def sp50 : SpL := [(76, mkF s76 G76)]
noncomputable def lp50 : LpL := [(7, mkL l50_7 G50_7), (12, mkL l50_12 G50_12)]
noncomputable def sw50 : SwL := [(68, mkFW s68 G68), (53, mkFW s53 G53)]
noncomputable def tab50 : Tab := mkTab sp50 lp50 sw50
noncomputable def sp28 : SpL := [(47, mkF s47 G47), (49, mkF s49 G49), (50, mkF s50 G50)]
noncomputable def lp28 : LpL := []
noncomputable def sw28 : SwL := []
noncomputable def tab28 : Tab := mkTab sp28 lp28 sw28
end Go.Proofs.Ytipbcpobnciccaa

namespace Go.Proofs.Ytipbcpobnciccaa
open Go.Lite
set_option linter.unusedVariables false
set_option maxRecDepth 100000
theorem t69 (a b c d : D) : fnTW C tab69 69 s69 [a, b, c, d] =
  T.need (yes (netP (D.I a) (D.L b))) (T.need (yes ((↑(0 + 1) : Int) = (1 : Int) ∧ goodL (D.I a) (allL (D.I a) (D.L b)) ∧ (↑(Int.toNat (D.I c)) : Int) = D.I a ∧ (↑(Int.toNat (↑(List.length (allL (D.I a) (D.L b))) : Int)) : Int) = (↑(List.length (allL (D.I a) (D.L b))) : Int) ∧ (0 : Int) ≤ (0 : Int) ∧ (0 : Int) ≤ D.I a + (1 : Int) ∧ (↑(List.length (D.L d)) : Int) = D.I a ∧ room (D.L d) ((↑(List.length (allL (D.I a) (D.L b))) : Int) * (D.I a + (1 : Int) - (0 : Int))))) (T.ite (decide ((roundsR (allL (D.I a) (D.L b)) (Int.toNat (D.I a + (1 : Int) - (0 : Int))) (D.L d, [], (0 : Int))).snd.snd < (0 : Int))) (T.leaf [D.b (rg (roundsR (allL (D.I a) (D.L b)) (Int.toNat (D.I a + (1 : Int) - (0 : Int))) (D.L d, [], (0 : Int))).fst 0 == (0 : Int)), D.l (roundsR (allL (D.I a) (D.L b)) (Int.toNat (D.I a + (1 : Int) - (0 : Int))) (D.L d, [], (0 : Int))).fst]) (T.leaf [D.b false, D.l (roundsR (allL (D.I a) (D.L b)) (Int.toNat (D.I a + (1 : Int) - (0 : Int))) (D.L d, [], (0 : Int))).fst]))) := by kernel_rfl
theorem t69_3_0 (a b c d : D) : roundTK C tab69 69 (loopOf C.P 69 3) 1 l69_3 [.i 0, a, b, c, d] =
  T.ite (decide (D.I c ≤ D.I a)) T.fail (T.leaf (Rd.out (Ex.exit 0) [D.l (D.L d)])) := by kernel_rfl
theorem t69_3_1 (a b c d e f : D) : roundTK C tab69 69 (loopOf C.P 69 3) 1 l69_3 [.i 1, a, b, c, d, e, f] =
  T.ite (decide (D.I d ≤ D.I a)) (T.need (yes ((↑(0 + 1) : Int) = (1 : Int) ∧ goodL (D.I a) (D.L f) ∧ (↑(Int.toNat (D.I b)) : Int) = D.I a ∧ (↑(Int.toNat (D.I c)) : Int) = (↑(List.length (D.L f)) : Int) ∧ (0 : Int) ≤ (0 : Int) ∧ (0 : Int) ≤ (↑(List.length (D.L f)) : Int) ∧ (↑(List.length (D.L e)) : Int) = D.I a ∧ room (D.L e) ((↑(List.length (D.L f)) : Int) - (0 : Int)))) (T.ite (true && decide ((passR (D.L f) (Int.toNat (0 : Int)) (List.length (D.L f) - Int.toNat (0 : Int)) (D.L e, [], (-1 : Int))).snd.snd < (0 : Int))) (T.need (decide ((0 : Int) ≤ (0 : Int) ∧ (0 : Int) < (↑(Int.toNat (D.I a)) : Int))) (T.need (decide (Int.toNat (0 : Int) < List.length (passR (D.L f) (Int.toNat (0 : Int)) (List.length (D.L f) - Int.toNat (0 : Int)) (D.L e, [], (-1 : Int))).fst)) (T.leaf (Rd.out Ex.ret [D.b (D.I (List.getD (List.getD (passR (D.L f) (Int.toNat (0 : Int)) (List.length (D.L f) - Int.toNat (0 : Int)) (D.L e, [], (-1 : Int))).fst (Int.toNat (0 : Int)) []) 0 default) == (0 : Int)), D.l (passR (D.L f) (Int.toNat (0 : Int)) (List.length (D.L f) - Int.toNat (0 : Int)) (D.L e, [], (-1 : Int))).fst])))) (T.leaf (Rd.again [D.i (1 : Int), D.i (D.I a), D.i (↑(Int.toNat (D.I a)) : Int), D.i (↑(Int.toNat (↑(List.length (D.L f)) : Int)) : Int), D.i (IntKind.wrap IntKind.i64 (D.I d + (1 : Int))), D.l (passR (D.L f) (Int.toNat (0 : Int)) (List.length (D.L f) - Int.toNat (0 : Int)) (D.L e, [], (-1 : Int))).fst, D.l (D.L f)])))) (T.leaf (Rd.out (Ex.exit 0) [D.l (D.L e)])) := by kernel_rfl
theorem t69_7_0 (a b c d e f : D) : roundTK C tab69 69 (loopOf C.P 69 7) 1 l69_7 [.i 0, a, b, c, d, e, f] =
  T.ite (decide (D.I e < (↑0 : Int))) T.fail (T.leaf (Rd.out (Ex.exit 2) [D.i (0 : Int), D.i (D.I a), D.i (↑(Int.toNat (D.I b)) : Int), D.i (D.I c), D.b (D.B d), D.l (D.L f)])) := by kernel_rfl
theorem t69_7_1 (a b c d e f g h : D) : roundTK C tab69 69 (loopOf C.P 69 7) 1 l69_7 [.i 1, a, b, c, d, e, f, g, h] =
  T.ite (decide (D.I f < (↑(Int.toNat (D.I c)) : Int))) (T.need (decide ((0 : Int) ≤ D.I f ∧ D.I f < (↑(Int.toNat (D.I c)) : Int))) (T.need (decide (Int.toNat (D.I f) < List.length (D.L h))) (T.need (decide ((0 : Int) ≤ D.I (List.getD (List.getD (D.L h) (Int.toNat (D.I f)) []) 0 default) ∧ D.I (List.getD (List.getD (D.L h) (Int.toNat (D.I f)) []) 0 default) < (↑(Int.toNat (D.I b)) : Int))) (T.need (decide (Int.toNat (D.I (List.getD (List.getD (D.L h) (Int.toNat (D.I f)) []) 0 default)) < List.length (D.L g))) (T.need (decide ((0 : Int) ≤ D.I (List.getD (List.getD (D.L h) (Int.toNat (D.I f)) []) (0 + 1) default) ∧ D.I (List.getD (List.getD (D.L h) (Int.toNat (D.I f)) []) (0 + 1) default) < (↑(Int.toNat (D.I b)) : Int))) (T.need (decide (Int.toNat (D.I (List.getD (List.getD (D.L h) (Int.toNat (D.I f)) []) (0 + 1) default)) < List.length (D.L g))) (T.ite (decide (IntKind.wrap IntKind.i64 (D.I (List.getD (List.getD (D.L g) (Int.toNat (D.I (List.getD (List.getD (D.L h) (Int.toNat (D.I f)) []) 0 default))) []) 0 default) + D.I (List.getD (List.getD (D.L h) (Int.toNat (D.I f)) []) (0 + 1 + 1) default)) > D.I (List.getD (List.getD (D.L g) (Int.toNat (D.I (List.getD (List.getD (D.L h) (Int.toNat (D.I f)) []) (0 + 1) default))) []) 0 default))) (T.need (decide ((0 : Int) ≤ D.I (List.getD (List.getD (D.L h) (Int.toNat (D.I f)) []) 0 default) ∧ D.I (List.getD (List.getD (D.L h) (Int.toNat (D.I f)) []) 0 default) < (↑(Int.toNat (D.I b)) : Int))) (T.need (decide (Int.toNat (D.I (List.getD (List.getD (D.L h) (Int.toNat (D.I f)) []) 0 default)) < List.length (D.L g))) (T.need (decide ((0 : Int) ≤ D.I (List.getD (List.getD (D.L h) (Int.toNat (D.I f)) []) (0 + 1) default) ∧ D.I (List.getD (List.getD (D.L h) (Int.toNat (D.I f)) []) (0 + 1) default) < (↑(Int.toNat (D.I b)) : Int))) (T.need (decide (Int.toNat (D.I (List.getD (List.getD (D.L h) (Int.toNat (D.I f)) []) (0 + 1) default)) < List.length (D.L g))) (T.leaf (Rd.again [D.i (1 : Int), D.i (D.I a), D.i (↑(Int.toNat (D.I b)) : Int), D.i (↑(Int.toNat (D.I c)) : Int), D.i (D.I d), D.b false, D.i (IntKind.wrap IntKind.i64 (D.I f + (1 : Int))), D.l (List.set (D.L g) (Int.toNat (D.I (List.getD (List.getD (D.L h) (Int.toNat (D.I f)) []) (0 + 1) default))) (updC (List.getD (D.L g) (Int.toNat (D.I (List.getD (List.getD (D.L h) (Int.toNat (D.I f)) []) (0 + 1) default))) []) [D.i (IntKind.wrap IntKind.i64 (D.I (List.getD (List.getD (D.L g) (Int.toNat (D.I (List.getD (List.getD (D.L h) (Int.toNat (D.I f)) []) 0 default))) []) 0 default) + D.I (List.getD (List.getD (D.L h) (Int.toNat (D.I f)) []) (0 + 1 + 1) default)))] 0 0 (List.length [K.int IntKind.i64]))), D.l (D.L h)])))))) (T.leaf (Rd.again [D.i (1 : Int), D.i (D.I a), D.i (↑(Int.toNat (D.I b)) : Int), D.i (↑(Int.toNat (D.I c)) : Int), D.i (D.I d), D.b (D.B e), D.i (IntKind.wrap IntKind.i64 (D.I f + (1 : Int))), D.l (D.L g), D.l (D.L h)]))))))))) (T.leaf (Rd.out (Ex.exit 2) [D.i (1 : Int), D.i (D.I a), D.i (↑(Int.toNat (D.I b)) : Int), D.i (↑(Int.toNat (D.I c)) : Int), D.i (D.I d), D.b (D.B e), D.l (D.L g), D.l (D.L h)])) := by kernel_rfl
theorem t36 (a b c : D) : fnT C tab36 36 s36 [a, b, c] =
  T.ite (List.isEmpty (D.L c)) T.fail (T.need (decide (List.length (D.L c) ≤ 2 ^ 62 ∧ List.length (D.L c) * Try.prog.types[3].bytes ≤ 2 ^ 47)) (T.need (yes (netP (D.I a) (D.L b) ∧ (↑(List.length (D.L c)) : Int) = D.I a ∧ (↑(List.length (D.L c)) : Int) = D.I a ∧ bndR (D.L c) (1099511627776 : Int))) (T.leaf [D.i (1 : Int), D.i (↑(List.length (D.L c)) : Int), D.b (refOk (D.I a) (D.L b) (D.L c)), D.l (refR (D.I a) (D.L b) (D.L c)).fst]))) := by kernel_rfl
theorem t19 (a b : D) : fnT C tab19 19 s19 [a, b] =
  T.need (decide ((0 : Int) ≤ D.I a ∧ D.I a = D.I a ∧ D.I a ≤ (2 : Int) ^ 40 ∧ (↑Try.prog.types[3].bytes : Int) * D.I a ≤ (2 : Int) ^ 46)) (T.need (decide (List.length (List.replicate (Int.toNat (D.I a)) [D.i (0 : Int)]) ≤ List.length (List.replicate (Int.toNat (D.I a)) [D.i (0 : Int)]))) (T.need (yes (netP (D.I a) (D.L b) ∧ (↑(List.length (List.take (List.length (List.replicate (Int.toNat (D.I a)) [D.i (0 : Int)])) (List.replicate (Int.toNat (D.I a)) [D.i (0 : Int)]))) : Int) = D.I a ∧ bndR (List.take (List.length (List.replicate (Int.toNat (D.I a)) [D.i (0 : Int)])) (List.replicate (Int.toNat (D.I a)) [D.i (0 : Int)])) (1099511627776 : Int))) (T.leaf [D.i (1 : Int), D.i (↑(Int.toNat (D.I a)) : Int), D.b (refOk (D.I a) (D.L b) (List.take (List.length (List.replicate (Int.toNat (D.I a)) [D.i (0 : Int)])) (List.replicate (Int.toNat (D.I a)) [D.i (0 : Int)]))), D.l (refR (D.I a) (D.L b) (List.take (List.length (List.replicate (Int.toNat (D.I a)) [D.i (0 : Int)])) (List.replicate (Int.toNat (D.I a)) [D.i (0 : Int)]))).fst]))) := by kernel_rfl
theorem t76 (a b c d : D) : fnT C tab76 76 s76 [a, b, c, d] =
  T.need (decide ((0 : Int) ≤ D.I a ∧ D.I a < (↑(List.length (D.L b)) : Int))) (T.ite (decide (D.I (List.getD (List.getD (D.L b) (Int.toNat (D.I a)) []) 0 default) < (0 : Int))) (T.leaf [D.i (IntKind.wrap IntKind.i64 (IntKind.wrap IntKind.i64 ((↑(List.length (D.L d)) : Int) - D.I c) + D.I a))]) (T.need (decide ((0 : Int) ≤ D.I a ∧ D.I a < (↑(List.length (D.L b)) : Int))) (T.leaf [D.i (D.I (List.getD (List.getD (D.L b) (Int.toNat (D.I a)) []) 0 default))]))) := by kernel_rfl
theorem t50 (a b : D) : fnT C tab50 50 s50 [a, b] =
  T.need (decide ((0 : Int) ≤ D.I a ∧ D.I a = D.I a ∧ D.I a ≤ (2 : Int) ^ 40 ∧ (↑Try.prog.types[3].bytes : Int) * D.I a ≤ (2 : Int) ^ 46)) (T.need (yes (goodL (D.I a) (D.L b) ∧ (↑(List.length (List.replicate (Int.toNat (D.I a)) [D.i (0 : Int)])) : Int) = D.I a ∧ (↑(List.length (List.replicate (Int.toNat (D.I a)) [D.i (0 : Int)])) : Int) = D.I a ∧ bndR (List.replicate (Int.toNat (D.I a)) [D.i (0 : Int)]) (1099511627776 : Int))) (T.ite (decide ((pushR (D.I a) (D.L b) (List.replicate (Int.toNat (D.I a)) [D.i (0 : Int)])).snd.snd < (0 : Int))) (T.leaf [D.i (0 : Int), D.i (↑(List.length (List.replicate (Int.toNat (D.I a)) [D.i (0 : Int)])) : Int), D.l (pushR (D.I a) (D.L b) (List.replicate (Int.toNat (D.I a)) [D.i (0 : Int)])).fst]) (T.need (yes (backOk (D.I a) (D.L b) (pushR (D.I a) (D.L b) (List.replicate (Int.toNat (D.I a)) [D.i (0 : Int)])).snd.fst ∧ (↑(Int.toNat (D.I a)) : Int) = D.I a ∧ (0 : Int) ≤ (pushR (D.I a) (D.L b) (List.replicate (Int.toNat (D.I a)) [D.i (0 : Int)])).snd.snd ∧ (pushR (D.I a) (D.L b) (List.replicate (Int.toNat (D.I a)) [D.i (0 : Int)])).snd.snd < D.I a ∧ (0 : Int) ≤ (0 : Int) ∧ (0 : Int) ≤ IntKind.wrap IntKind.i64 (D.I a + (1 : Int)) ∧ IntKind.wrap IntKind.i64 (D.I a + (1 : Int)) ≤ (501 : Int))) (T.need (yes ((↑0 : Int) = (0 : Int) ∧ backOk (D.I a) (D.L b) (pushR (D.I a) (D.L b) (List.replicate (Int.toNat (D.I a)) [D.i (0 : Int)])).snd.fst ∧ (↑(Int.toNat (D.I a)) : Int) = D.I a ∧ (0 : Int) ≤ walk (D.I a) (D.L b) (pushR (D.I a) (D.L b) (List.replicate (Int.toNat (D.I a)) [D.i (0 : Int)])).snd.fst (Int.toNat (IntKind.wrap IntKind.i64 (D.I a + (1 : Int)) - (0 : Int))) (pushR (D.I a) (D.L b) (List.replicate (Int.toNat (D.I a)) [D.i (0 : Int)])).snd.snd ∧ walk (D.I a) (D.L b) (pushR (D.I a) (D.L b) (List.replicate (Int.toNat (D.I a)) [D.i (0 : Int)])).snd.fst (Int.toNat (IntKind.wrap IntKind.i64 (D.I a + (1 : Int)) - (0 : Int))) (pushR (D.I a) (D.L b) (List.replicate (Int.toNat (D.I a)) [D.i (0 : Int)])).snd.snd < D.I a ∧ walk (D.I a) (D.L b) (pushR (D.I a) (D.L b) (List.replicate (Int.toNat (D.I a)) [D.i (0 : Int)])).snd.fst (Int.toNat (IntKind.wrap IntKind.i64 (D.I a + (1 : Int)) - (0 : Int))) (pushR (D.I a) (D.L b) (List.replicate (Int.toNat (D.I a)) [D.i (0 : Int)])).snd.snd = walk (D.I a) (D.L b) (pushR (D.I a) (D.L b) (List.replicate (Int.toNat (D.I a)) [D.i (0 : Int)])).snd.fst (Int.toNat (IntKind.wrap IntKind.i64 (D.I a + (1 : Int)) - (0 : Int))) (pushR (D.I a) (D.L b) (List.replicate (Int.toNat (D.I a)) [D.i (0 : Int)])).snd.snd ∧ reaches (D.I a) (D.L b) (pushR (D.I a) (D.L b) (List.replicate (Int.toNat (D.I a)) [D.i (0 : Int)])).snd.fst (predI (D.I a) (D.L b) (pushR (D.I a) (D.L b) (List.replicate (Int.toNat (D.I a)) [D.i (0 : Int)])).snd.fst (walk (D.I a) (D.L b) (pushR (D.I a) (D.L b) (List.replicate (Int.toNat (D.I a)) [D.i (0 : Int)])).snd.fst (Int.toNat (IntKind.wrap IntKind.i64 (D.I a + (1 : Int)) - (0 : Int))) (pushR (D.I a) (D.L b) (List.replicate (Int.toNat (D.I a)) [D.i (0 : Int)])).snd.snd)) (walk (D.I a) (D.L b) (pushR (D.I a) (D.L b) (List.replicate (Int.toNat (D.I a)) [D.i (0 : Int)])).snd.fst (Int.toNat (IntKind.wrap IntKind.i64 (D.I a + (1 : Int)) - (0 : Int))) (pushR (D.I a) (D.L b) (List.replicate (Int.toNat (D.I a)) [D.i (0 : Int)])).snd.snd))) (T.need (yes ((↑(Int.toNat (↑(List.length (circle (D.I a) (D.L b) (pushR (D.I a) (D.L b) (List.replicate (Int.toNat (D.I a)) [D.i (0 : Int)])).snd.fst (walk (D.I a) (D.L b) (pushR (D.I a) (D.L b) (List.replicate (Int.toNat (D.I a)) [D.i (0 : Int)])).snd.fst (Int.toNat (IntKind.wrap IntKind.i64 (D.I a + (1 : Int)) - (0 : Int))) (pushR (D.I a) (D.L b) (List.replicate (Int.toNat (D.I a)) [D.i (0 : Int)])).snd.snd))) : Int)) : Int) = (↑(List.length (circle (D.I a) (D.L b) (pushR (D.I a) (D.L b) (List.replicate (Int.toNat (D.I a)) [D.i (0 : Int)])).snd.fst (walk (D.I a) (D.L b) (pushR (D.I a) (D.L b) (List.replicate (Int.toNat (D.I a)) [D.i (0 : Int)])).snd.fst (Int.toNat (IntKind.wrap IntKind.i64 (D.I a + (1 : Int)) - (0 : Int))) (pushR (D.I a) (D.L b) (List.replicate (Int.toNat (D.I a)) [D.i (0 : Int)])).snd.snd))) : Int) ∧ List.length (circle (D.I a) (D.L b) (pushR (D.I a) (D.L b) (List.replicate (Int.toNat (D.I a)) [D.i (0 : Int)])).snd.fst (walk (D.I a) (D.L b) (pushR (D.I a) (D.L b) (List.replicate (Int.toNat (D.I a)) [D.i (0 : Int)])).snd.fst (Int.toNat (IntKind.wrap IntKind.i64 (D.I a + (1 : Int)) - (0 : Int))) (pushR (D.I a) (D.L b) (List.replicate (Int.toNat (D.I a)) [D.i (0 : Int)])).snd.snd)) ≤ 1000000)) (T.leaf [D.i (2 : Int), D.i (↑(Int.toNat (↑(List.length (circle (D.I a) (D.L b) (pushR (D.I a) (D.L b) (List.replicate (Int.toNat (D.I a)) [D.i (0 : Int)])).snd.fst (walk (D.I a) (D.L b) (pushR (D.I a) (D.L b) (List.replicate (Int.toNat (D.I a)) [D.i (0 : Int)])).snd.fst (Int.toNat (IntKind.wrap IntKind.i64 (D.I a + (1 : Int)) - (0 : Int))) (pushR (D.I a) (D.L b) (List.replicate (Int.toNat (D.I a)) [D.i (0 : Int)])).snd.snd))) : Int)) : Int), D.l (revR 0 (List.length (circle (D.I a) (D.L b) (pushR (D.I a) (D.L b) (List.replicate (Int.toNat (D.I a)) [D.i (0 : Int)])).snd.fst (walk (D.I a) (D.L b) (pushR (D.I a) (D.L b) (List.replicate (Int.toNat (D.I a)) [D.i (0 : Int)])).snd.fst (Int.toNat (IntKind.wrap IntKind.i64 (D.I a + (1 : Int)) - (0 : Int))) (pushR (D.I a) (D.L b) (List.replicate (Int.toNat (D.I a)) [D.i (0 : Int)])).snd.snd))) (circle (D.I a) (D.L b) (pushR (D.I a) (D.L b) (List.replicate (Int.toNat (D.I a)) [D.i (0 : Int)])).snd.fst (walk (D.I a) (D.L b) (pushR (D.I a) (D.L b) (List.replicate (Int.toNat (D.I a)) [D.i (0 : Int)])).snd.fst (Int.toNat (IntKind.wrap IntKind.i64 (D.I a + (1 : Int)) - (0 : Int))) (pushR (D.I a) (D.L b) (List.replicate (Int.toNat (D.I a)) [D.i (0 : Int)])).snd.snd)))])))))) := by kernel_rfl
theorem t50_7 (a b c d e f g : D) : roundT C tab50 50 (loopOf C.P 50 7) l50_7 [a, b, c, d, e, f, g] =
  T.ite (decide (D.I c < D.I b)) (T.need (decide (Int.toNat (D.I f) ≤ List.length (D.L g))) (T.need (yes (backOk (D.I d) (D.L e) (List.take (Int.toNat (D.I f)) (D.L g)) ∧ (0 : Int) ≤ D.I a ∧ D.I a < D.I d)) (T.need (decide ((0 : Int) ≤ backI (D.I d) (D.L e) (List.take (Int.toNat (D.I f)) (D.L g)) (D.I a) ∧ backI (D.I d) (D.L e) (List.take (Int.toNat (D.I f)) (D.L g)) (D.I a) < (↑(List.length (D.L e)) : Int))) (T.leaf (Rd.again [D.i (D.I (List.getD (List.getD (D.L e) (Int.toNat (backI (D.I d) (D.L e) (List.take (Int.toNat (D.I f)) (D.L g)) (D.I a))) []) 0 default)), D.i (D.I b), D.i (IntKind.wrap IntKind.i64 (D.I c + (1 : Int))), D.i (D.I d), D.l (D.L e), D.i (↑(Int.toNat (D.I f)) : Int), D.l (D.L g)]))))) (T.leaf (Rd.out (Ex.exit 0) [D.i (D.I a), D.i (D.I d), D.l (D.L e), D.i (↑(Int.toNat (D.I f)) : Int), D.l (D.L g)])) := by kernel_rfl
theorem t50_12_0 (a b c d e f : D) : roundT C tab50 50 (loopOf C.P 50 12) l50_12 [.i 0, a, b, c, d, e, f] =
  T.ite true (T.need (decide (Int.toNat (D.I e) ≤ List.length (D.L f))) (T.need (yes (backOk (D.I c) (D.L d) (List.take (Int.toNat (D.I e)) (D.L f)) ∧ (0 : Int) ≤ D.I a ∧ D.I a < D.I c)) (T.need true (T.ite false (T.need (decide (Int.toNat (D.I e) ≤ List.length (D.L f))) (T.need (yes (backOk (D.I c) (D.L d) (List.take (Int.toNat (D.I e)) (D.L f)) ∧ (0 : Int) ≤ D.I a ∧ D.I a < D.I c)) (T.need (decide ((0 : Int) ≤ backI (D.I c) (D.L d) (List.take (Int.toNat (D.I e)) (D.L f)) (D.I a) ∧ backI (D.I c) (D.L d) (List.take (Int.toNat (D.I e)) (D.L f)) (D.I a) < (↑(List.length (D.L d)) : Int))) (T.leaf (Rd.again [D.i (0 : Int), D.i (D.I (List.getD (List.getD (D.L d) (Int.toNat (backI (D.I c) (D.L d) (List.take (Int.toNat (D.I e)) (D.L f)) (D.I a))) []) 0 default)), D.i (D.I b), D.i (D.I c), D.l (D.L d), D.i (↑(Int.toNat (D.I e)) : Int), D.l (D.L f)]))))) (T.need true (T.need (decide (Int.toNat (D.I e) ≤ List.length (D.L f))) (T.need (yes (backOk (D.I c) (D.L d) (List.take (Int.toNat (D.I e)) (D.L f)) ∧ (0 : Int) ≤ D.I a ∧ D.I a < D.I c)) (T.need (decide ((0 : Int) ≤ backI (D.I c) (D.L d) (List.take (Int.toNat (D.I e)) (D.L f)) (D.I a) ∧ backI (D.I c) (D.L d) (List.take (Int.toNat (D.I e)) (D.L f)) (D.I a) < (↑(List.length (D.L d)) : Int))) (T.leaf (Rd.again [D.i (1 : Int), D.i (D.I (List.getD (List.getD (D.L d) (Int.toNat (backI (D.I c) (D.L d) (List.take (Int.toNat (D.I e)) (D.L f)) (D.I a))) []) 0 default)), D.i (1 : Int), D.i (D.I b), D.i (D.I c), D.l (D.L d), D.i (↑(Int.toNat (D.I e)) : Int), D.l [[D.i (backI (D.I c) (D.L d) (List.take (Int.toNat (D.I e)) (D.L f)) (D.I a))]], D.l (D.L f)])))))))))) (T.ite (D.I a != D.I b) (T.need (decide (Int.toNat (D.I e) ≤ List.length (D.L f))) (T.need (yes (backOk (D.I c) (D.L d) (List.take (Int.toNat (D.I e)) (D.L f)) ∧ (0 : Int) ≤ D.I a ∧ D.I a < D.I c)) (T.need true (T.ite false (T.need (decide (Int.toNat (D.I e) ≤ List.length (D.L f))) (T.need (yes (backOk (D.I c) (D.L d) (List.take (Int.toNat (D.I e)) (D.L f)) ∧ (0 : Int) ≤ D.I a ∧ D.I a < D.I c)) (T.need (decide ((0 : Int) ≤ backI (D.I c) (D.L d) (List.take (Int.toNat (D.I e)) (D.L f)) (D.I a) ∧ backI (D.I c) (D.L d) (List.take (Int.toNat (D.I e)) (D.L f)) (D.I a) < (↑(List.length (D.L d)) : Int))) (T.leaf (Rd.again [D.i (0 : Int), D.i (D.I (List.getD (List.getD (D.L d) (Int.toNat (backI (D.I c) (D.L d) (List.take (Int.toNat (D.I e)) (D.L f)) (D.I a))) []) 0 default)), D.i (D.I b), D.i (D.I c), D.l (D.L d), D.i (↑(Int.toNat (D.I e)) : Int), D.l (D.L f)]))))) (T.need true (T.need (decide (Int.toNat (D.I e) ≤ List.length (D.L f))) (T.need (yes (backOk (D.I c) (D.L d) (List.take (Int.toNat (D.I e)) (D.L f)) ∧ (0 : Int) ≤ D.I a ∧ D.I a < D.I c)) (T.need (decide ((0 : Int) ≤ backI (D.I c) (D.L d) (List.take (Int.toNat (D.I e)) (D.L f)) (D.I a) ∧ backI (D.I c) (D.L d) (List.take (Int.toNat (D.I e)) (D.L f)) (D.I a) < (↑(List.length (D.L d)) : Int))) (T.leaf (Rd.again [D.i (1 : Int), D.i (D.I (List.getD (List.getD (D.L d) (Int.toNat (backI (D.I c) (D.L d) (List.take (Int.toNat (D.I e)) (D.L f)) (D.I a))) []) 0 default)), D.i (1 : Int), D.i (D.I b), D.i (D.I c), D.l (D.L d), D.i (↑(Int.toNat (D.I e)) : Int), D.l [[D.i (backI (D.I c) (D.L d) (List.take (Int.toNat (D.I e)) (D.L f)) (D.I a))]], D.l (D.L f)])))))))))) (T.leaf (Rd.out (Ex.exit 2) [D.i (0 : Int)]))) := by kernel_rfl
theorem t50_12_1 (a b c d e f g h : D) : roundT C tab50 50 (loopOf C.P 50 12) l50_12 [.i 1, a, b, c, d, e, f, g, h] =
  T.ite ((↑(Int.toNat (D.I b)) : Int) == (0 : Int)) (T.need (decide (Int.toNat (D.I f) ≤ List.length (D.L h))) (T.need (yes (backOk (D.I d) (D.L e) (List.take (Int.toNat (D.I f)) (D.L h)) ∧ (0 : Int) ≤ D.I a ∧ D.I a < D.I d)) (T.need true (T.ite false (T.need (decide (Int.toNat (D.I f) ≤ List.length (D.L h))) (T.need (yes (backOk (D.I d) (D.L e) (List.take (Int.toNat (D.I f)) (D.L h)) ∧ (0 : Int) ≤ D.I a ∧ D.I a < D.I d)) (T.need (decide ((0 : Int) ≤ backI (D.I d) (D.L e) (List.take (Int.toNat (D.I f)) (D.L h)) (D.I a) ∧ backI (D.I d) (D.L e) (List.take (Int.toNat (D.I f)) (D.L h)) (D.I a) < (↑(List.length (D.L e)) : Int))) (T.leaf (Rd.again [D.i (1 : Int), D.i (D.I (List.getD (List.getD (D.L e) (Int.toNat (backI (D.I d) (D.L e) (List.take (Int.toNat (D.I f)) (D.L h)) (D.I a))) []) 0 default)), D.i (↑(Int.toNat (D.I b)) : Int), D.i (D.I c), D.i (D.I d), D.l (D.L e), D.i (↑(Int.toNat (D.I f)) : Int), D.l (D.L g), D.l (D.L h)]))))) (T.need (decide (Int.toNat (D.I b) ≤ List.length (D.L g) ∧ Int.toNat (D.I b) + List.length (List.take (List.length [[D.i (backI (D.I d) (D.L e) (List.take (Int.toNat (D.I f)) (D.L h)) (D.I a))]]) [[D.i (backI (D.I d) (D.L e) (List.take (Int.toNat (D.I f)) (D.L h)) (D.I a))]]) ≤ 2 ^ 62 ∧ (Int.toNat (D.I b) + List.length (List.take (List.length [[D.i (backI (D.I d) (D.L e) (List.take (Int.toNat (D.I f)) (D.L h)) (D.I a))]]) [[D.i (backI (D.I d) (D.L e) (List.take (Int.toNat (D.I f)) (D.L h)) (D.I a))]])) * Try.prog.types[3].bytes ≤ 2 ^ 47)) (T.need (decide (Int.toNat (D.I f) ≤ List.length (D.L h))) (T.need (yes (backOk (D.I d) (D.L e) (List.take (Int.toNat (D.I f)) (D.L h)) ∧ (0 : Int) ≤ D.I a ∧ D.I a < D.I d)) (T.need (decide ((0 : Int) ≤ backI (D.I d) (D.L e) (List.take (Int.toNat (D.I f)) (D.L h)) (D.I a) ∧ backI (D.I d) (D.L e) (List.take (Int.toNat (D.I f)) (D.L h)) (D.I a) < (↑(List.length (D.L e)) : Int))) (T.leaf (Rd.again [D.i (1 : Int), D.i (D.I (List.getD (List.getD (D.L e) (Int.toNat (backI (D.I d) (D.L e) (List.take (Int.toNat (D.I f)) (D.L h)) (D.I a))) []) 0 default)), D.i (↑(Int.toNat (D.I b) + List.length (List.take (List.length [[D.i (backI (D.I d) (D.L e) (List.take (Int.toNat (D.I f)) (D.L h)) (D.I a))]]) [[D.i (backI (D.I d) (D.L e) (List.take (Int.toNat (D.I f)) (D.L h)) (D.I a))]])) : Int), D.i (D.I c), D.i (D.I d), D.l (D.L e), D.i (↑(Int.toNat (D.I f)) : Int), D.l (List.take (Int.toNat (D.I b)) (D.L g) ++ List.take (List.length [[D.i (backI (D.I d) (D.L e) (List.take (Int.toNat (D.I f)) (D.L h)) (D.I a))]]) [[D.i (backI (D.I d) (D.L e) (List.take (Int.toNat (D.I f)) (D.L h)) (D.I a))]]), D.l (D.L h)])))))))))) (T.ite (D.I a != D.I c) (T.need (decide (Int.toNat (D.I f) ≤ List.length (D.L h))) (T.need (yes (backOk (D.I d) (D.L e) (List.take (Int.toNat (D.I f)) (D.L h)) ∧ (0 : Int) ≤ D.I a ∧ D.I a < D.I d)) (T.need true (T.ite false (T.need (decide (Int.toNat (D.I f) ≤ List.length (D.L h))) (T.need (yes (backOk (D.I d) (D.L e) (List.take (Int.toNat (D.I f)) (D.L h)) ∧ (0 : Int) ≤ D.I a ∧ D.I a < D.I d)) (T.need (decide ((0 : Int) ≤ backI (D.I d) (D.L e) (List.take (Int.toNat (D.I f)) (D.L h)) (D.I a) ∧ backI (D.I d) (D.L e) (List.take (Int.toNat (D.I f)) (D.L h)) (D.I a) < (↑(List.length (D.L e)) : Int))) (T.leaf (Rd.again [D.i (1 : Int), D.i (D.I (List.getD (List.getD (D.L e) (Int.toNat (backI (D.I d) (D.L e) (List.take (Int.toNat (D.I f)) (D.L h)) (D.I a))) []) 0 default)), D.i (↑(Int.toNat (D.I b)) : Int), D.i (D.I c), D.i (D.I d), D.l (D.L e), D.i (↑(Int.toNat (D.I f)) : Int), D.l (D.L g), D.l (D.L h)]))))) (T.need (decide (Int.toNat (D.I b) ≤ List.length (D.L g) ∧ Int.toNat (D.I b) + List.length (List.take (List.length [[D.i (backI (D.I d) (D.L e) (List.take (Int.toNat (D.I f)) (D.L h)) (D.I a))]]) [[D.i (backI (D.I d) (D.L e) (List.take (Int.toNat (D.I f)) (D.L h)) (D.I a))]]) ≤ 2 ^ 62 ∧ (Int.toNat (D.I b) + List.length (List.take (List.length [[D.i (backI (D.I d) (D.L e) (List.take (Int.toNat (D.I f)) (D.L h)) (D.I a))]]) [[D.i (backI (D.I d) (D.L e) (List.take (Int.toNat (D.I f)) (D.L h)) (D.I a))]])) * Try.prog.types[3].bytes ≤ 2 ^ 47)) (T.need (decide (Int.toNat (D.I f) ≤ List.length (D.L h))) (T.need (yes (backOk (D.I d) (D.L e) (List.take (Int.toNat (D.I f)) (D.L h)) ∧ (0 : Int) ≤ D.I a ∧ D.I a < D.I d)) (T.need (decide ((0 : Int) ≤ backI (D.I d) (D.L e) (List.take (Int.toNat (D.I f)) (D.L h)) (D.I a) ∧ backI (D.I d) (D.L e) (List.take (Int.toNat (D.I f)) (D.L h)) (D.I a) < (↑(List.length (D.L e)) : Int))) (T.leaf (Rd.again [D.i (1 : Int), D.i (D.I (List.getD (List.getD (D.L e) (Int.toNat (backI (D.I d) (D.L e) (List.take (Int.toNat (D.I f)) (D.L h)) (D.I a))) []) 0 default)), D.i (↑(Int.toNat (D.I b) + List.length (List.take (List.length [[D.i (backI (D.I d) (D.L e) (List.take (Int.toNat (D.I f)) (D.L h)) (D.I a))]]) [[D.i (backI (D.I d) (D.L e) (List.take (Int.toNat (D.I f)) (D.L h)) (D.I a))]])) : Int), D.i (D.I c), D.i (D.I d), D.l (D.L e), D.i (↑(Int.toNat (D.I f)) : Int), D.l (List.take (Int.toNat (D.I b)) (D.L g) ++ List.take (List.length [[D.i (backI (D.I d) (D.L e) (List.take (Int.toNat (D.I f)) (D.L h)) (D.I a))]]) [[D.i (backI (D.I d) (D.L e) (List.take (Int.toNat (D.I f)) (D.L h)) (D.I a))]]), D.l (D.L h)])))))))))) (T.leaf (Rd.out (Ex.exit 2) [D.i (1 : Int), D.i (↑(Int.toNat (D.I b)) : Int), D.l (D.L g)]))) := by kernel_rfl
theorem t28 (a b : D) : fnT C tab28 28 s28 [a, b] =
  T.need (yes (List.length (D.L b) < big)) (T.ite (!netOk (D.I a) (D.L b)) (T.leaf [D.i (0 : Int), D.i (2 : Int)]) (T.need (yes (netP (D.I a) (D.L b))) (T.need (decide (Int.toNat (↑(List.length (allL (D.I a) (D.L b))) : Int) ≤ List.length (allL (D.I a) (D.L b)))) (T.need (yes (goodL (D.I a) (List.take (Int.toNat (↑(List.length (allL (D.I a) (D.L b))) : Int)) (allL (D.I a) (D.L b))) ∧ D.I a ≤ (↑(List.length (List.take (Int.toNat (↑(List.length (allL (D.I a) (D.L b))) : Int)) (allL (D.I a) (D.L b)))) : Int))) (T.ite (decide ((pushR (D.I a) (List.take (Int.toNat (↑(List.length (allL (D.I a) (D.L b))) : Int)) (allL (D.I a) (D.L b))) (zeros (D.I a))).snd.snd < (0 : Int))) (T.ite false (T.leaf [D.i (0 : Int), D.i (5 : Int)]) (T.leaf [D.i (1 : Int), D.i (↑(Int.toNat (D.I a)) : Int), D.i (0 : Int), D.l (pushR (D.I a) (List.take (Int.toNat (↑(List.length (allL (D.I a) (D.L b))) : Int)) (allL (D.I a) (D.L b))) (zeros (D.I a))).fst])) (T.ite true (T.leaf [D.i (2 : Int), D.i (↑(Int.toNat (↑(List.length (proofR (D.I a) (List.take (Int.toNat (↑(List.length (allL (D.I a) (D.L b))) : Int)) (allL (D.I a) (D.L b))))) : Int)) : Int), D.i (5 : Int), D.l (proofR (D.I a) (List.take (Int.toNat (↑(List.length (allL (D.I a) (D.L b))) : Int)) (allL (D.I a) (D.L b))))]) (T.leaf [D.i (0 : Int), D.i (0 : Int)]))))))) := by kernel_rfl
end Go.Proofs.Ytipbcpobnciccaa

namespace Go.Proofs.Ytipbcpobnciccaa
open Go.Lite
set_option maxRecDepth 100000
/-! ### All links are good -/
theorem len_allL (n : Int) (l : List (List D)) : (allL n l).length = l.length + n.toNat := by simp [allL, len_extraF]
theorem allL_get1 {n : Int} {l : List (List D)} {i : Nat} (h : i < l.length) : (allL n l).getD i [] = l.getD i [] := by
  simp only [allL, List.getD_eq_getElem?_getD]
  rw [List.getElem?_append_left h]
theorem allL_get2 {n : Int} {l : List (List D)} {i : Nat} (h : i < n.toNat) : (allL n l).getD (l.length + i) [] = [.i 0, .i (i : Int), .i 0] := by
  have := extraF_get (i := 0) (k := n.toNat) (j := i) h
  simp only [List.getD_eq_getElem?_getD, Nat.zero_add] at this
  simp only [allL, List.getD_eq_getElem?_getD]
  rw [List.getElem?_append_right (by omega), Nat.add_sub_cancel_left]
  exact this
theorem net_of {n : Int} {l : List (List D)} (h : netP n l) : 1 ≤ n ∧ n ≤ 500 ∧ l.length ≤ 5000 ∧ ∀ i, i < l.length → (0 ≤ lkF l i ∧ lkF l i < n) ∧ (0 ≤ lkT l i ∧ lkT l i < n) ∧ (-1000000 ≤ lkW l i ∧ lkW l i ≤ 1000000) := by
  simp only [netP, netOk, Bool.and_eq_true, Lite.within_iff, decide_eq_true_eq, allFrom_iff, linkOk, linkP] at h
  obtain ⟨⟨⟨h1, h2⟩, h3⟩, h4⟩ := h
  refine ⟨h1, h2, h3, fun i hi => ?_⟩
  have := h4 i (Nat.zero_le _) (by omega)
  omega
theorem good_all {n : Int} {l : List (List D)} (h : netP n l) : goodL n (allL n l) := by
  obtain ⟨h1, h2, h3, h4⟩ := net_of h
  refine ⟨h1, h2, by rw [len_allL]; omega, fun i hi => ?_⟩
  rw [len_allL] at hi
  by_cases hl : i < l.length
  · have := h4 i hl
    unfold lkF lkT lkW at this ⊢
    rw [allL_get1 hl]
    exact this
  · obtain ⟨j, rfl⟩ : ∃ j, i = l.length + j := ⟨i - l.length, by omega⟩
    unfold lkF lkT lkW
    rw [allL_get2 (by omega)]
    simp only [ix, List.getD_cons_zero, List.getD_cons_succ, D.I]
    omega

/-! ### Raising, whoever is noted -/
theorem passR_fst (l : List (List D)) : ∀ (k i : Nat) (s s' : RSt), s.1 = s'.1 → (passR l i k s).1 = (passR l i k s').1
  | 0, _, _, _, h => h
  | k + 1, i, s, s', h => by
    refine passR_fst l k (i + 1) _ _ ?_
    unfold stepR
    rw [h]
    split
    · rfl
    · exact h
theorem stepR_pos {n : Int} {l : List (List D)} (hl : goodL n l) {i : Nat} (hi : i < l.length) {s : RSt} (h : 0 ≤ s.2.2) : 0 ≤ (stepR l i s).2.2 := by
  unfold stepR
  split
  · exact (hl.2.2.2 i hi).2.1.1
  · exact h
theorem passR_pos {n : Int} {l : List (List D)} (hl : goodL n l) : ∀ (k i : Nat), i + k ≤ l.length → ∀ (s : RSt), 0 ≤ s.2.2 → 0 ≤ (passR l i k s).2.2
  | 0, _, _, _, h => h
  | k + 1, i, hk, s, h => passR_pos hl k (i + 1) (by omega) _ (stepR_pos hl (by omega) h)
theorem passR_neg {n : Int} {l : List (List D)} (hl : goodL n l) : ∀ (k i : Nat), i + k ≤ l.length → ∀ (s s' : RSt), s.1 = s'.1 → (s.2.2 < 0 ↔ s'.2.2 < 0) → ((passR l i k s).2.2 < 0 ↔ (passR l i k s').2.2 < 0)
  | 0, _, _, _, _, _, h => h
  | k + 1, i, hk, s, s', h1, h2 => by
    refine passR_neg hl k (i + 1) (by omega) _ _ ?_ ?_
    · unfold stepR
      rw [h1]
      split
      · rfl
      · exact h1
    · unfold stepR
      rw [h1]
      split
      · simp only
      · exact h2
/-- Both searches raise the same. -/
theorem rounds_same {n : Int} {l : List (List D)} (hl : goodL n l) : ∀ (k : Nat) (s s' : RSt), s.1 = s'.1 → (s.2.2 < 0 ↔ s'.2.2 < 0) → (roundsR l k s).1 = (roundsR l k s').1 ∧ ((roundsR l k s).2.2 < 0 ↔ (roundsR l k s').2.2 < 0)
  | 0, _, _, h1, h2 => ⟨h1, h2⟩
  | k + 1, s, s', h1, h2 => by
    have e1 := passR_fst l l.length 0 (s.1, s.2.1, -1) (s'.1, s'.2.1, -1) h1
    have e2 := passR_neg hl l.length 0 (by omega) (s.1, s.2.1, -1) (s'.1, s'.2.1, -1) h1 (by simp)
    simp only [roundsR]
    by_cases hc : (passR l 0 l.length (s.1, s.2.1, -1)).2.2 < 0
    · rw [if_pos hc, if_pos (e2.1 hc)]
      exact ⟨e1, e2⟩
    · rw [if_neg hc, if_neg (fun h => hc (e2.2 h))]
      exact rounds_same hl k _ _ e1 e2
theorem rounds_last {l : List (List D)} (s s' : RSt) (h1 : s.1 = s'.1) {n : Int} (hl : goodL n l) (k : Nat) : (roundsR l (k + 1) s).1 = (roundsR l (k + 1) s').1 ∧ ((roundsR l (k + 1) s).2.2 < 0 ↔ (roundsR l (k + 1) s').2.2 < 0) := by
  have e1 := passR_fst l l.length 0 (s.1, s.2.1, -1) (s'.1, s'.2.1, -1) h1
  have e2 := passR_neg hl l.length 0 (by omega) (s.1, s.2.1, -1) (s'.1, s'.2.1, -1) h1 (by simp)
  simp only [roundsR]
  by_cases hc : (passR l 0 l.length (s.1, s.2.1, -1)).2.2 < 0
  · rw [if_pos hc, if_pos (e2.1 hc)]
    exact ⟨e1, e2⟩
  · rw [if_neg hc, if_neg (fun h => hc (e2.2 h))]
    exact rounds_same hl k _ _ e1 e2
/-- What is noted are links, and moments. -/
def NoteOk (n : Int) (l : List (List D)) (s : RSt) : Prop := (s.2.1.length : Int) = n ∧ (∀ j : Nat, (j : Int) < n → -1 ≤ rg s.2.1 j ∧ rg s.2.1 j < l.length) ∧ -1 ≤ s.2.2 ∧ s.2.2 < n
theorem note_step {n : Int} {l : List (List D)} (hl : goodL n l) {i : Nat} (hi : i < l.length) {s : RSt} (h : NoteOk n l s) : NoteOk n l (stepR l i s) := by
  obtain ⟨h1, h2, h3, h4⟩ := h
  obtain ⟨-, ⟨g1, g2⟩, -⟩ := hl.2.2.2 i hi
  unfold stepR
  split
  · refine ⟨by simp only [len_rs]; exact h1, fun j hj => ?_, by simp only; omega, by simp only; omega⟩
    simp only
    rw [rg_rs (by omega)]
    split
    · omega
    · exact h2 j hj
  · exact ⟨h1, h2, h3, h4⟩
theorem note_pass {n : Int} {l : List (List D)} (hl : goodL n l) : ∀ (k i : Nat), i + k ≤ l.length → ∀ {s : RSt}, NoteOk n l s → NoteOk n l (passR l i k s)
  | 0, _, _, _, h => h
  | k + 1, i, hk, _, h => note_pass hl k (i + 1) (by omega) (note_step hl (by omega) h)
theorem note_rounds {n : Int} {l : List (List D)} (hl : goodL n l) : ∀ (k : Nat) {s : RSt}, NoteOk n l s → NoteOk n l (roundsR l k s)
  | 0, _, h => h
  | k + 1, s, h => by
    have h1 := note_pass hl l.length 0 (by omega) (s := (s.1, s.2.1, -1)) ⟨h.1, h.2.1, by simp, by have := hl.1; simp only; omega⟩
    simp only [roundsR]
    split
    · exact h1
    · exact note_rounds hl k h1
theorem note_push {n : Int} {l : List (List D)} (hl : goodL n l) (t : List (List D)) : NoteOk n l (pushR n l t) := by
  have hn := hl.1
  refine note_rounds hl _ ⟨by simp only [List.length_replicate]; omega, fun j hj => ?_, by simp, by simp only; omega⟩
  simp only
  rw [rg_rep (by omega)]
  omega
theorem back_push {n : Int} {l : List (List D)} (hl : goodL n l) (hn : n ≤ l.length) (t : List (List D)) : backOk n l (pushR n l t).2.1 := ⟨hl, (note_push hl t).1, hn, (note_push hl t).2.1⟩

/-! ### Steps back -/
theorem back_rng {n : Int} {l b : List (List D)} (h : backOk n l b) {v : Int} (h0 : 0 ≤ v) (h1 : v < n) : 0 ≤ backI n l b v ∧ backI n l b v < l.length := by
  obtain ⟨hl, hb, hn, hr⟩ := h
  have := hr v.toNat (by omega)
  unfold backI
  split <;> omega
theorem pred_rng {n : Int} {l b : List (List D)} (h : backOk n l b) {v : Int} (h0 : 0 ≤ v) (h1 : v < n) : 0 ≤ predI n l b v ∧ predI n l b v < n := by
  have := back_rng h h0 h1
  exact (h.1.2.2.2 (backI n l b v).toNat (by omega)).1
theorem walk_rng {n : Int} {l b : List (List D)} (h : backOk n l b) : ∀ (k : Nat) {v : Int}, 0 ≤ v → v < n → 0 ≤ walk n l b k v ∧ walk n l b k v < n
  | 0, _, h0, h1 => ⟨h0, h1⟩
  | k + 1, _, h0, h1 => walk_rng h k (pred_rng h h0 h1).1 (pred_rng h h0 h1).2
theorem ok69_7 (n : Nat) : LoopSimK C (n + 1) 1 69 (loopOf C.P 69 7) (mkLK 1 l69_7 G69_7) := by
  refine loop_ofK hC (sp := sp69) (lp := lp69) (sw := sw69) ⟨ok55 n, trivial⟩ trivial 1 [] (by kernel_rfl) rfl (fun k hk => by cases hk) (by kernel_rfl) (fun ds => ((ds.getD 3 default).I - (ds.getD 6 default).I).toNat) fun ds rr h => ?_
  unfold G69_7 at h
  split at h
  · rename_i j n m q r s i t a
    obtain ⟨hp, h⟩ := need_some h
    rw [yes_iff] at hp
    obtain ⟨hj, ⟨g1, g2, g3, g4⟩, h2, h3, h4, h5, h6, h7⟩ := hp
    have hb := big_eq
    refine ⟨by rw [fuelC]; simp; omega, ?_⟩
    rw [roundTK_head (j := j) (n := 1) hj (by decide), show roundTK C (mkTab sp69 lp69 sw69) 69 (loopOf C.P 69 7) 1 l69_7 [.i 1, n, m, q, r, s, i, t, a] = _ from t69_7_1 n m q r s i t a]
    obtain ⟨c, hc⟩ : ∃ c : Nat, i.I = c := ⟨i.I.toNat, by omega⟩
    have hg : goodL n.I a.L := ⟨g1, g2, g3, g4⟩
    have e0 : ((n.I.toNat : Nat) : Int) = n.I := by omega
    simp only [hc, h2, h3, Int.toNat_natCast, upd1, Nat.zero_add, Nat.reduceAdd, e0] at h h4 h5 h7 ⊢
    refine rd_if (fun hlt => ?_) fun hge => rd_out ?_
    · have hjl : c < a.L.length := by omega
      obtain ⟨f1, f2, f3⟩ := g4 c hjl
      have e1 : ((a.L.getD c []).getD 0 default).I = lkF a.L c := rfl
      have e2 : ((a.L.getD c []).getD 1 default).I = lkT a.L c := rfl
      have e3 : ((a.L.getD c []).getD 2 default).I = lkW a.L c := rfl
      have h0 := room_rg h7 (by omega) (lkF a.L c).toNat
      simp only [e1, e2, e3, rg_def, rs_def]
      have w : IntKind.i64.wrap (rg t.L (lkF a.L c).toNat + lkW a.L c) = rg t.L (lkF a.L c).toNat + lkW a.L c := wrap_id (by omega) (by omega)
      rw [w, wrap_succ (by omega)]
      have e4 : a.L.length - c = (a.L.length - (c + 1)) + 1 := by omega
      rw [e4] at h
      simp only [passR] at h
      have hroom : room (stepR a.L c (t.L, [], -1)).1 ((a.L.length : Int) - ((c + 1 : Nat) : Int)) := room_step hg hjl (s := (t.L, [], -1)) h6 (by
        have : (a.L.length : Int) - ((c + 1 : Nat) : Int) + 1 = a.L.length - c := by omega
        rw [this]; exact h7)
      have hmu : ((a.L.length : Int) - ((c + 1 : Nat) : Int)).toNat < (q.I - i.I).toNat := by omega
      refine rd_dec ⟨by omega, by omega⟩ (rd_dec (by omega) (rd_dec ⟨by omega, by omega⟩ (rd_dec (by omega) (rd_dec ⟨by omega, by omega⟩ (rd_dec (by omega) (rd_if (fun hgt => ?_) fun hle => ?_))))))
      · have hst : stepR a.L c (t.L, [], -1) = (rs t.L (lkT a.L c).toNat (rg t.L (lkF a.L c).toNat + lkW a.L c), rs [] (lkT a.L c).toNat c, lkT a.L c) := if_pos hgt
        simp only [hst] at h hroom
        refine rd_dec ⟨by omega, by omega⟩ (rd_dec (by omega) (rd_dec ⟨by omega, by omega⟩ (rd_dec (by omega) (rd_again ((need_yes ⟨rfl, hg, by simp only [I_i], by simp only [I_i, L_l], by simp only [I_i]; omega, by simp only [I_i, L_l]; omega, by simp only [L_l, len_rs, I_i]; exact h6, hroom⟩).trans ?_) hmu))))
        rw [← h]
        simp only [L_l, I_i, B_b, Int.toNat_natCast, Bool.false_and, run_leaf]
        have hpos := passR_pos hg (a.L.length - (c + 1)) (c + 1) (by omega) (rs t.L (lkT a.L c).toNat (rg t.L (lkF a.L c).toNat + lkW a.L c), rs [] (lkT a.L c).toNat c, lkT a.L c) f2.1
        rw [decide_eq_false (show ¬ (passR a.L (c + 1) (a.L.length - (c + 1)) (rs t.L (lkT a.L c).toNat (rg t.L (lkF a.L c).toNat + lkW a.L c), rs [] (lkT a.L c).toNat c, lkT a.L c)).2.2 < 0 by omega), Bool.and_false,
          passR_fst a.L (a.L.length - (c + 1)) (c + 1) (rs t.L (lkT a.L c).toNat (rg t.L (lkF a.L c).toNat + lkW a.L c), [], -1) (rs t.L (lkT a.L c).toNat (rg t.L (lkF a.L c).toNat + lkW a.L c), rs [] (lkT a.L c).toNat c, lkT a.L c) rfl]
      · have hst : stepR a.L c (t.L, [], -1) = (t.L, [], -1) := if_neg hle
        simp only [hst] at h hroom
        refine rd_again ((need_yes ⟨rfl, hg, by simp only [I_i], by simp only [I_i, L_l], by simp only [I_i]; omega, by simp only [I_i, L_l]; omega, h6, hroom⟩).trans ?_) hmu
        simp only [L_l, I_i, B_b, Int.toNat_natCast]
        exact h
    · rw [← h]
      have e5 : a.L.length - c = 0 := by omega
      simp [e5, passR, run_leaf]
  · cases h
theorem ok69_3 (n : Nat) : LoopSimK C (n + 1) 1 69 (loopOf C.P 69 3) (mkLK 1 l69_3 G69_3) := by
  refine loop_ofK hC (sp := sp69) (lp := lp69) (sw := sw69) ⟨ok55 n, trivial⟩ trivial 1 [7] (by kernel_rfl) (by kernel_rfl) (fun k hk L hL => by simp at hk; subst hk; cases hL; exact ok69_7 n) (by kernel_rfl) (fun ds => ((ds.getD 1 default).I + 1 - (ds.getD 4 default).I).toNat) fun ds rr h => ?_
  unfold G69_3 at h
  split at h
  · rename_i j n m q i t a
    obtain ⟨hp, h⟩ := need_some h
    rw [yes_iff] at hp
    obtain ⟨hj, ⟨g1, g2, g3, g4⟩, h2, h3, h4, h5, h6, h7⟩ := hp
    have hb := big_eq
    refine ⟨by rw [fuelC]; simp; omega, ?_⟩
    rw [roundTK_head (j := j) (n := 1) hj (by decide), show roundTK C (mkTab sp69 lp69 sw69) 69 (loopOf C.P 69 3) 1 l69_3 [.i 1, n, m, q, i, t, a] = _ from t69_3_1 n m q i t a]
    obtain ⟨c, hc⟩ : ∃ c : Nat, i.I = c := ⟨i.I.toNat, by omega⟩
    have hg : goodL n.I a.L := ⟨g1, g2, g3, g4⟩
    have e0 : ((n.I.toNat : Nat) : Int) = n.I := by omega
    simp only [hc, h2, h3, Int.toNat_natCast, Int.toNat_zero, Nat.sub_zero, Int.sub_zero, e0, Bool.true_and, rg_def] at h h4 h5 h7 ⊢
    refine rd_if (fun hlt => ?_) fun hge => rd_out ?_
    · have e7 : (n.I + 1 - (c : Int)).toNat = (n.I + 1 - ((c + 1 : Nat) : Int)).toNat + 1 := by omega
      rw [e7] at h
      simp only [roundsR] at h
      have hr1 : room t.L (a.L.length * (n.I + 1 - ((c + 1 : Nat) : Int)) + (a.L.length : Int)) := by
        have : (a.L.length : Int) * (n.I + 1 - ((c + 1 : Nat) : Int)) + a.L.length = a.L.length * (n.I + 1 - c) := by
          rw [show n.I + 1 - (c : Int) = (n.I + 1 - ((c + 1 : Nat) : Int)) + 1 by omega, Int.mul_add, Int.mul_one]
        rw [this]; exact h7
      have hr0 : room t.L (a.L.length : Int) := by
        obtain ⟨M, m1, m2⟩ := hr1
        have h0 := m1 0
        have : 0 ≤ (a.L.length : Int) * (n.I + 1 - ((c + 1 : Nat) : Int)) := Int.mul_nonneg (by omega) (by omega)
        exact ⟨M, m1, by rw [Int.mul_add] at m2; omega⟩
      have hr2 := room_pass hg a.L.length 0 (by omega) (s := (t.L, [], -1)) h6 hr1
      have hl2 := len_passR a.L a.L.length 0 (t.L, [], -1)
      refine rd_yes ⟨by trivial, hg, by trivial, by trivial, by omega, by omega, h6, hr0⟩ (rd_if (fun hcc => ?_) fun hcc => ?_)
      · rw [if_pos hcc, run_ite, if_pos (decide_eq_true hcc)] at h
        refine rd_dec ⟨by omega, by omega⟩ (rd_dec (by rw [hl2.1]; simp only; omega) (rd_out h))
      · rw [if_neg hcc] at h
        rw [wrap_succ (by omega)]
        refine rd_again ((need_yes ⟨rfl, hg, by simp only [I_i], by simp only [I_i, L_l], by simp only [I_i]; omega, by simp only [I_i]; omega, by simp only [L_l, I_i, hl2.1]; exact h6, by simp only [L_l, I_i]; exact hr2⟩).trans ?_) (show (n.I + 1 - ((c + 1 : Nat) : Int)).toNat < (n.I + 1 - i.I).toNat by omega)
        rw [← h]
        simp only [L_l, I_i]
        have hs := rounds_same hg (n.I + 1 - ((c + 1 : Nat) : Int)).toNat ((passR a.L 0 a.L.length (t.L, [], -1)).1, [], 0) (passR a.L 0 a.L.length (t.L, [], -1)) rfl ⟨fun h => absurd h (show ¬ ((0 : Int) < 0) by decide), fun h => absurd h hcc⟩
        simp only [hs.1]
        refine go_if (fun h9 => ?_) fun h9 => ?_
        · rw [run_ite, if_pos (decide_eq_true (hs.2.1 h9))]
        · rw [run_ite, if_neg (fun h8 => h9 (hs.2.2 (of_decide_eq_true h8)))]
    · rw [← h]
      have e5 : (n.I + 1 - (c : Int)).toNat = 0 := by omega
      simp only [e5, roundsR, run_leaf, run_ite]
      rfl
  · cases h
theorem bnd_zeros (n : Int) {M : Int} (h : 0 ≤ M) : bndR (zeros n) M := fun j => by
  unfold zeros
  by_cases hj : j < n.toNat
  · rw [rg_rep hj]; omega
  · rw [rg_ge (by simp only [List.length_replicate]; omega)]; omega
theorem len_zeros (n : Int) : (zeros n).length = n.toNat := by simp [zeros]
theorem len_revR : ∀ (k i : Nat) (r : List (List D)), (revR i k r).length = r.length
  | 0, _, _ => rfl
  | k + 1, i, r => by
    simp only [revR]
    split
    · rw [len_revR k (i + 1), len_rs, len_rs]
    · rfl

/-! ### Steps to a moment -/
theorem walk_iter {n : Int} {l b : List (List D)} (h : backOk n l b) : ∀ (k : Nat) {v : Int}, 0 ≤ v → v < n → (walk n l b k v).toNat = iter (fun x => (predI n l b x).toNat) k v.toNat
  | 0, _, _, _ => rfl
  | k + 1, v, h0, h1 => by
    have e : ((v.toNat : Nat) : Int) = v := by omega
    simp only [walk, iter, e]
    exact walk_iter h k (pred_rng h h0 h1).1 (pred_rng h h0 h1).2
theorem reaches_walk {n : Int} {l b : List (List D)} (h : backOk n l b) {v : Int} (h0 : 0 ≤ v) (h1 : v < n) (K : Nat) (hK : n.toNat ≤ K + 1) : ∃ k, 0 < k ∧ k ≤ n.toNat ∧ walk n l b k (walk n l b K v) = walk n l b K v := by
  have hg : ∀ x, x < n.toNat → (predI n l b x).toNat < n.toNat := fun x hx => by have := pred_rng h (v := x) (by omega) (by omega); omega
  obtain ⟨k, k0, k1, k2⟩ := iter_cycle hg (x := v.toNat) (by omega) hK
  refine ⟨k, k0, k1, ?_⟩
  have hw := walk_rng h K h0 h1
  have hw2 := walk_rng h k hw.1 hw.2
  have e1 := walk_iter h K h0 h1
  have e2 := walk_iter h k hw.1 hw.2
  rw [e1, k2, ← e1] at e2
  omega
theorem reaches_pred {n : Int} {l b : List (List D)} (h : backOk n l b) {v : Int} (h0 : 0 ≤ v) (h1 : v < n) (K : Nat) (hK : n.toNat ≤ K + 1) : reaches n l b (predI n l b (walk n l b K v)) (walk n l b K v) := by
  obtain ⟨k, k0, k1, k2⟩ := reaches_walk h h0 h1 K hK
  have := h.1.2.1
  obtain ⟨j, rfl⟩ : ∃ j, k = j + 1 := ⟨k - 1, by omega⟩
  exact ⟨j, by omega, k2⟩
theorem stepsTo_add (n : Int) (l b : List (List D)) (e : Int) : ∀ (f k : Nat) (v : Int), stepsTo n l b v e (k + 1) f = stepsTo n l b v e k f + 1
  | 0, _, _ => rfl
  | f + 1, k, v => by
    simp only [stepsTo]
    split
    · rfl
    · exact stepsTo_add n l b e f (k + 1) _
theorem stepsTo_fuel (n : Int) (l b : List (List D)) (e : Int) : ∀ (f j k : Nat) (v : Int), j ≤ f → walk n l b j v = e → stepsTo n l b v e k (f + 1) = stepsTo n l b v e k f
  | 0, j, k, v, hj, hw => by
    obtain rfl : j = 0 := by omega
    have : v = e := hw
    simp [stepsTo, this]
  | f + 1, j, k, v, hj, hw => by
    show (if v = e then k else stepsTo n l b (predI n l b v) e (k + 1) (f + 1)) = (if v = e then k else stepsTo n l b (predI n l b v) e (k + 1) f)
    by_cases hc : v = e
    · rw [if_pos hc, if_pos hc]
    · rw [if_neg hc, if_neg hc]
      match j, hw with
      | 0, hw => exact absurd hw hc
      | j + 1, hw => exact stepsTo_fuel n l b e f j (k + 1) _ (by omega) hw
theorem stepsTo_le (n : Int) (l b : List (List D)) (e : Int) : ∀ (f k : Nat) (v : Int), stepsTo n l b v e k f ≤ k + f
  | 0, _, _ => Nat.le_refl _
  | f + 1, k, v => by
    simp only [stepsTo]
    split
    · omega
    · have := stepsTo_le n l b e f (k + 1) (predI n l b v); omega
theorem dist_le (n : Int) (l b : List (List D)) (v e : Int) : dist n l b v e ≤ 501 := by have := stepsTo_le n l b e 501 0 v; unfold dist; omega
theorem dist_zero {n : Int} {l b : List (List D)} {v e : Int} (h : v = e) : dist n l b v e = 0 := by
  unfold dist
  rw [stepsTo, if_pos h]
theorem dist_succ {n : Int} {l b : List (List D)} {v e : Int} (h : reaches n l b v e) (hne : v ≠ e) : dist n l b v e = dist n l b (predI n l b v) e + 1 ∧ reaches n l b (predI n l b v) e := by
  obtain ⟨j, hj, hw⟩ := h
  match j, hw with
  | 0, hw => exact absurd hw hne
  | j + 1, hw =>
    refine ⟨?_, j, by omega, hw⟩
    unfold dist
    rw [stepsTo_fuel n l b e 500 j 0 _ (by omega) hw, stepsTo, if_neg hne, stepsTo_add]
theorem proof_len (n : Int) (l : List (List D)) : (proofR n l).length ≤ 502 := by
  unfold proofR
  simp only [len_revR, circle, List.length_cons]
  have : ∀ (b : List (List D)) (k : Nat) (v : Int), (chainF n l b k v).length = k := by
    intro b k
    induction k with
    | zero => intro v; rfl
    | succ k ih => intro v; simp [chainF, ih]
  rw [this]
  have := dist_le n l (pushR n l (zeros n)).2.1 (predI n l (pushR n l (zeros n)).2.1 (walk n l (pushR n l (zeros n)).2.1 (n.toNat + 1) (pushR n l (zeros n)).2.2)) (walk n l (pushR n l (zeros n)).2.1 (n.toNat + 1) (pushR n l (zeros n)).2.2)
  omega
theorem ok69 (n : Nat) : FnOKW C (n + 2) 69 (mkFW s69 G69) := by
  refine fn_ofW hC (sp := sp69) (lp := lp69) (sw := sw69) ⟨ok55 n, trivial⟩ trivial (by kernel_rfl) [3] (by kernel_rfl) (by kernel_rfl) (fun k hk L hL => by simp at hk; subst hk; cases hL; exact ok69_3 n) fun ds rr h => ?_
  unfold G69 at h
  split at h
  · rename_i n l m t
    obtain ⟨hp, h⟩ := need_some h
    rw [yes_iff] at hp
    obtain ⟨h1, h2, h3, h4⟩ := hp
    refine (congrArg T.run (t69 n l m t)).trans ?_
    have hb := big_eq
    have hg := good_all h1
    obtain ⟨k1, k2, k3, k4⟩ := net_of h1
    have e7 : (n.I + 1 - 0).toNat = n.I.toNat + 1 := by omega
    have hla := len_allL n.I l.L
    have hroom : room t.L (((allL n.I l.L).length : Int) * (n.I + 1 - 0)) := by
      refine ⟨1099511627776, h4, ?_⟩
      have : ((allL n.I l.L).length : Int) * (n.I + 1 - 0) ≤ 5500 * 501 := Int.mul_le_mul (by omega) (by omega) (by omega) (by omega)
      omega
    rw [← h]
    refine go_yes h1 (go_yes ⟨by trivial, hg, by omega, by omega, by omega, by omega, h3, hroom⟩ ?_)
    simp only [e7]
    refine go_if (fun hc => ?_) fun hc => ?_
    · have : refOk n.I l.L t.L = (rg (refR n.I l.L t.L).1 0 == 0) := by unfold refOk; rw [decide_eq_true (show (refR n.I l.L t.L).2.2 < 0 from hc), Bool.true_and]
      rw [this]; rfl
    · have : refOk n.I l.L t.L = false := by unfold refOk; rw [decide_eq_false (show ¬ (refR n.I l.L t.L).2.2 < 0 from hc), Bool.false_and]
      rw [this]; rfl
  · cases h
theorem ok36 (n : Nat) : FnOK C (n + 3) 36 (mkF s36 G36) := by
  refine fn_ofS hC (sp := sp36) (lp := lp36) (sw := sw36) trivial ⟨ok69 n, trivial⟩ (by kernel_rfl) [] (by kernel_rfl) rfl (fun k hk => by cases hk) fun ds rr h => ?_
  unfold G36 at h
  split at h
  · rename_i n l t
    obtain ⟨hp, h⟩ := need_some h
    rw [yes_iff] at hp
    obtain ⟨h1, h2, h3⟩ := hp
    refine (congrArg T.run (t36 n l t)).trans ?_
    have hb := big_eq
    obtain ⟨k1, k2, k3, k4⟩ := net_of h1
    have e : t.L.isEmpty = false := by
      have : t.L ≠ [] := fun hh => by rw [hh] at h2; simp at h2; omega
      simpa using this
    have e3 : Try.prog.types[3].bytes = 8 := by have := bytes3; omega
    rw [← h]
    refine go_false e (go_dec ⟨by omega, by rw [e3]; omega⟩ (go_yes ⟨h1, h2, h2, h3⟩ ?_))
    rw [h2]
  · cases h
theorem ok19 (n : Nat) : FnOK C (n + 4) 19 (mkF s19 G19) := by
  refine fn_ofS hC (sp := sp19) (lp := lp19) (sw := sw19) ⟨ok36 n, trivial⟩ trivial (by kernel_rfl) [] (by kernel_rfl) rfl (fun k hk => by cases hk) fun ds rr h => ?_
  unfold G19 at h
  split at h
  · rename_i n l
    obtain ⟨hp, h⟩ := need_some h
    rw [yes_iff] at hp
    have h1 := hp
    refine (congrArg T.run (t19 n l)).trans ?_
    have hb := big_eq
    obtain ⟨k1, k2, k3, k4⟩ := net_of h1
    have ez : List.replicate n.I.toNat [D.i 0] = zeros n.I := rfl
    have e6 : ((n.I.toNat : Nat) : Int) = n.I := by omega
    simp only [ez, List.take_length, bytes3]
    rw [← h]
    refine go_dec ⟨by omega, by trivial, by omega, by omega⟩ (go_dec (Nat.le_refl _) (go_yes ⟨h1, by rw [len_zeros]; omega, bnd_zeros _ (by omega)⟩ ?_))
    rw [e6]
  · cases h
theorem ok76 (n : Nat) : FnOK C (n + 1) 76 (mkF s76 G76) := by
  refine fn_ofS hC (sp := sp76) (lp := lp76) (sw := sw76) trivial trivial (by kernel_rfl) [] (by kernel_rfl) rfl (fun k hk => by cases hk) fun ds rr h => ?_
  unfold G76 at h
  split at h
  · rename_i v b n l
    obtain ⟨hp, h⟩ := need_some h
    rw [yes_iff] at hp
    obtain ⟨⟨⟨g1, g2, g3, g4⟩, k1, k2, k3⟩, h2, h3⟩ := hp
    refine (congrArg T.run (t76 v b n l)).trans ?_
    have hb := big_eq
    have hr := k3 v.I.toNat (by omega)
    rw [← h]
    simp only [rg_def]
    refine go_dec ⟨by omega, by omega⟩ (go_if (fun hc => ?_) fun hc => go_dec ⟨by omega, by omega⟩ ?_)
    · have w : IntKind.i64.wrap (IntKind.i64.wrap ((l.L.length : Int) - n.I) + v.I) = (l.L.length : Int) - n.I + v.I := by
        rw [wrap_id (x := (l.L.length : Int) - n.I) (by omega) (by omega)]
        exact wrap_id (by omega) (by omega)
      rw [w]
      unfold backI
      rw [if_pos hc]
    · unfold backI
      rw [if_neg hc]
  · cases h
theorem ok50_7 (n : Nat) : LoopSim C (n + 1) 50 (loopOf C.P 50 7) (mkL l50_7 G50_7) := by
  refine loop_ofK hC (sp := sp50) (lp := lp50) (sw := sw50) ⟨ok76 n, trivial⟩ ⟨ok68 n, ok53 n, trivial⟩ 0 [] (by kernel_rfl) rfl (fun k hk => by cases hk) (by kernel_rfl) (fun ds => ((ds.getD 1 default).I - (ds.getD 2 default).I).toNat) fun ds rr h => ?_
  unfold G50_7 at h
  split at h
  · rename_i v k i n l q b
    obtain ⟨hp, h⟩ := need_some h
    rw [yes_iff] at hp
    obtain ⟨hk, h2, h3, h4, h5, h6, h7⟩ := hp
    have hb := big_eq
    refine ⟨by rw [fuelC]; simp; omega, ?_⟩
    rw [show roundTK C (mkTab sp50 lp50 sw50) 50 (loopOf C.P 50 7) 0 l50_7 [v, k, i, n, l, q, b] = _ from t50_7 v k i n l q b]
    obtain ⟨⟨g1, g2, g3, g4⟩, k1, k2, k3⟩ := id hk
    have e1 : b.L.take q.I.toNat = b.L := List.take_of_length_le (by omega)
    have e2 : ((q.I.toNat : Nat) : Int) = n.I := by omega
    simp only [e1, e2]
    have hr := back_rng hk h3 h4
    have hp := pred_rng hk h3 h4
    refine rd_if (fun hlt => ?_) fun hge => rd_out ?_
    · refine rd_dec (by omega) (rd_yes ⟨hk, h3, h4⟩ (rd_dec hr ?_))
      rw [wrap_id (x := i.I + 1) (by omega) (by omega)]
      refine rd_again ((need_yes ⟨hk, by simp only [I_i], hp.1, hp.2, by simp only [I_i]; omega, by simp only [I_i]; omega, h7⟩).trans ?_) ?_
      · rw [← h]
        simp only [I_i, L_l]
        have e3 : (k.I - i.I).toNat = (k.I - (i.I + 1)).toNat + 1 := by omega
        rw [e3]
        rfl
      · show (k.I - (i.I + 1)).toNat < (k.I - i.I).toNat
        omega
    · rw [← h]
      have e3 : (k.I - i.I).toNat = 0 := by omega
      simp only [e3, walk, run_leaf]
  · cases h
theorem ok50_12 (n : Nat) : LoopSim C (n + 1) 50 (loopOf C.P 50 12) (mkL l50_12 G50_12) := by
  refine loop_ofK hC (sp := sp50) (lp := lp50) (sw := sw50) ⟨ok76 n, trivial⟩ ⟨ok68 n, ok53 n, trivial⟩ 0 [] (by kernel_rfl) rfl (fun k hk => by cases hk) (by kernel_rfl) (fun ds => if (ds.getD 0 default).I = 0 then 502 else dist (ds.getD 4 default).I (ds.getD 5 default).L (ds.getD 8 default).L (ds.getD 1 default).I (ds.getD 3 default).I) fun ds rr h => ?_
  unfold G50_12 at h
  split at h
  · rename_i j v m e n l q p b
    obtain ⟨hp, h⟩ := need_some h
    rw [yes_iff] at hp
    obtain ⟨hj, hk, h2, h3, h4, h5, h6, h7, h8⟩ := hp
    have hb := big_eq
    refine ⟨by show (if j.I = 0 then 502 else dist n.I l.L b.L v.I e.I) < C.fuel; rw [fuelC, if_neg (by omega)]; have := dist_le n.I l.L b.L v.I e.I; omega, ?_⟩
    rw [roundTK_head (j := j) (n := 1) hj (by decide), show roundTK C (mkTab sp50 lp50 sw50) 50 (loopOf C.P 50 12) 0 l50_12 [.i 1, v, m, e, n, l, q, p, b] = _ from t50_12_1 v m e n l q p b]
    obtain ⟨⟨g1, g2, g3, g4⟩, k1, k2, k3⟩ := id hk
    have e1 : b.L.take q.I.toNat = b.L := List.take_of_length_le (by omega)
    have e2 : ((q.I.toNat : Nat) : Int) = n.I := by omega
    have e4 : m.I.toNat = p.L.length := by omega
    have e5 : Try.prog.types[3].bytes = 8 := by have := bytes3; omega
    have e8 : 1 ≤ m.I := by omega
    have e9 : ∀ x : List D, List.take 1 [x] = [x] := fun _ => rfl
    simp only [e1, e2, e4, List.take_length, List.length_cons, List.length_nil, Nat.zero_add, e9]
    have hr := back_rng hk h3 h4
    have hp := pred_rng hk h3 h4
    have hd := dist_le n.I l.L b.L v.I e.I
    refine rd_false (beq_eq_false_iff_ne.2 (by omega)) (rd_ite (fun hc => ?_) fun hc => rd_out ?_)
    · have hne : v.I ≠ e.I := by simpa using hc
      obtain ⟨d1, d2⟩ := dist_succ h8 hne
      have e6 : (p.L ++ [[D.i (backI n.I l.L b.L v.I)]]).length = p.L.length + 1 := by simp
      refine rd_dec (by omega) (rd_yes ⟨hk, h3, h4⟩ (rd_need rfl (rd_false rfl (rd_dec ⟨Nat.le_refl _, by omega, by rw [e5]; omega⟩ (rd_dec (by omega) (rd_yes ⟨hk, h3, h4⟩ (rd_dec hr ?_)))))))
      refine rd_again ((need_yes ⟨rfl, hk, rfl, hp.1, hp.2, by simp only [L_l, I_i, e6], by simp only [L_l, e6]; omega, by simp only [L_l, I_i, e6]; show p.L.length + 1 + dist n.I l.L b.L (predI n.I l.L b.L v.I) e.I ≤ 100000; omega, d2⟩).trans ?_) ?_
      · rw [← h]
        simp only [I_i, L_l]
        show (T.leaf (Ex.exit 2, [D.i 1, D.i ((p.L ++ [[D.i (backI n.I l.L b.L v.I)]] ++ chainF n.I l.L b.L (dist n.I l.L b.L (predI n.I l.L b.L v.I) e.I) (predI n.I l.L b.L v.I)).length : Nat), D.l (p.L ++ [[D.i (backI n.I l.L b.L v.I)]] ++ chainF n.I l.L b.L (dist n.I l.L b.L (predI n.I l.L b.L v.I) e.I) (predI n.I l.L b.L v.I))])).run = _
        rw [d1, chainF, List.append_assoc]
        rfl
      · show (if (1 : Int) = 0 then 502 else dist n.I l.L b.L (predI n.I l.L b.L v.I) e.I) < (if j.I = 0 then 502 else dist n.I l.L b.L v.I e.I)
        rw [if_neg (by decide), if_neg (by omega)]
        omega
    · have he : v.I = e.I := by simpa using hc
      rw [← h, dist_zero he]
      simp only [chainF, List.append_nil, run_leaf]
  · rename_i j v e n l q b
    obtain ⟨hp, h⟩ := need_some h
    rw [yes_iff] at hp
    obtain ⟨hj, hk, h2, h3, h4, h5, h6⟩ := hp
    have hb := big_eq
    refine ⟨by show (if j.I = 0 then 502 else _) < C.fuel; rw [fuelC, if_pos hj]; omega, ?_⟩
    rw [roundTK_head (j := j) (n := 0) hj (by decide), show roundTK C (mkTab sp50 lp50 sw50) 50 (loopOf C.P 50 12) 0 l50_12 [.i 0, v, e, n, l, q, b] = _ from t50_12_0 v e n l q b]
    obtain ⟨⟨g1, g2, g3, g4⟩, k1, k2, k3⟩ := id hk
    have e1 : b.L.take q.I.toNat = b.L := List.take_of_length_le (by omega)
    have e2 : ((q.I.toNat : Nat) : Int) = n.I := by omega
    simp only [e1, e2]
    have hr := back_rng hk h3 h4
    have hp := pred_rng hk h3 h4
    have hd := dist_le n.I l.L b.L (predI n.I l.L b.L v.I) v.I
    refine rd_true rfl (rd_dec (by omega) (rd_yes ⟨hk, h3, h4⟩ (rd_need rfl (rd_false rfl (rd_need rfl (rd_dec (by omega) (rd_yes ⟨hk, h3, h4⟩ (rd_dec hr ?_))))))))
    refine rd_again ((need_yes ⟨rfl, hk, rfl, hp.1, hp.2, rfl, Nat.zero_lt_one, by show 1 + dist n.I l.L b.L (predI n.I l.L b.L v.I) e.I ≤ 100000; rw [h5]; omega, by show reaches n.I l.L b.L (predI n.I l.L b.L v.I) e.I; rw [h5]; exact h6⟩).trans ?_) ?_
    · rw [← h]
      simp only [I_i, L_l, h5]
      rfl
    · show (if (1 : Int) = 0 then 502 else dist n.I l.L b.L (predI n.I l.L b.L v.I) e.I) < (if j.I = 0 then 502 else _)
      rw [if_neg (by decide), if_pos hj, h5]
      omega
  · cases h
theorem ok50 (n : Nat) : FnOK C (n + 2) 50 (mkF s50 G50) := by
  refine fn_ofS hC (sp := sp50) (lp := lp50) (sw := sw50) ⟨ok76 n, trivial⟩ ⟨ok68 n, ok53 n, trivial⟩ (by kernel_rfl) [7, 12] (by kernel_rfl) (by kernel_rfl) (fun k hk L hL => by
      simp at hk
      rcases hk with rfl | rfl <;> cases hL
      · exact ok50_7 n
      · exact ok50_12 n) fun ds rr h => ?_
  unfold G50 at h
  split at h
  · rename_i n l
    obtain ⟨hp, h⟩ := need_some h
    rw [yes_iff] at hp
    obtain ⟨hg, hn⟩ := hp
    refine (congrArg T.run (t50 n l)).trans ?_
    have hb := big_eq
    obtain ⟨g1, g2, g3, g4⟩ := id hg
    have ez : List.replicate n.I.toNat [D.i 0] = zeros n.I := rfl
    have e6 : ((n.I.toNat : Nat) : Int) = n.I := by omega
    have w : IntKind.i64.wrap (n.I + 1) = n.I + 1 := wrap_id (by omega) (by omega)
    have e7 : (n.I + 1 - 0).toNat = n.I.toNat + 1 := by omega
    have hl0 : ((zeros n.I).length : Int) = n.I := by rw [len_zeros]; omega
    simp only [ez, bytes3, w, e7, hl0, e6, Int.toNat_natCast]
    rw [← h]
    have hbk := back_push hg hn (zeros n.I)
    have hno := note_push hg (zeros n.I)
    have hpl := proof_len n.I l.L
    refine go_dec ⟨by omega, by trivial, by omega, by omega⟩ (go_yes ⟨hg, by trivial, by trivial, bnd_zeros _ (by omega)⟩ (go_if (fun hc => ?_) fun hc => ?_))
    · rw [run_ite, if_pos (decide_eq_true hc)]
    · rw [run_ite, if_neg (by simpa using hc)]
      have h0 : 0 ≤ (pushR n.I l.L (zeros n.I)).2.2 := by omega
      have hw := walk_rng hbk (n.I.toNat + 1) h0 hno.2.2.2
      refine go_yes ⟨hbk, by trivial, h0, hno.2.2.2, by omega, by omega, by omega⟩ (go_yes ⟨by trivial, hbk, by trivial, hw.1, hw.2, by trivial, reaches_pred hbk h0 hno.2.2.2 _ (by omega)⟩ (go_yes ⟨by trivial, ?_⟩ ?_))
      · unfold proofR at hpl
        simp only [len_revR] at hpl
        omega
      · unfold proofR
        simp only [len_revR]
        done
  · cases h
theorem ok28 (n : Nat) : FnOK C (n + 6) 28 (mkF s28 G28) := by
  refine fn_ofS hC (sp := sp28) (lp := lp28) (sw := sw28) ⟨ok47 n, ok49 (n + 3), ok50 (n + 3), trivial⟩ trivial (by kernel_rfl) [] (by kernel_rfl) rfl (fun k hk => by cases hk) fun ds rr h => ?_
  unfold G28 at h
  split at h
  · rename_i n l
    obtain ⟨hp, h⟩ := need_some h
    rw [yes_iff] at hp
    have h1 := hp
    refine (congrArg T.run (t28 n l)).trans ?_
    have hb := big_eq
    rw [← h]
    refine go_yes h1 (go_not (fun hc => ?_) fun hc => ?_)
    · rw [run_ite, if_neg (by rw [hc]; decide)]
    · rw [run_ite, if_pos hc]
      have hp : netP n.I l.L := hc
      have hg := good_all hp
      obtain ⟨k1, k2, k3, k4⟩ := net_of hp
      have hla := len_allL n.I l.L
      have e6 : ((n.I.toNat : Nat) : Int) = n.I := by omega
      simp only [Int.toNat_natCast, List.take_length, e6]
      refine go_yes hp (go_dec (Nat.le_refl _) (go_yes ⟨hg, by omega⟩ (go_if (fun h2 => go_false rfl ?_) fun h2 => go_true rfl ?_)))
      · rw [run_ite, if_pos (decide_eq_true h2)]
      · rw [run_ite, if_neg (by simpa using h2)]
  · cases h
end Go.Proofs.Ytipbcpobnciccaa
