/-
  Shapes of arguments, results and loops. Written by program.
  Open roads: what the law looks at.
  Tables. Written by program.
  What the rounds and the functions come to. Written by program.
  Shapes of arguments, results and loops. Written by program.
  Arrivals with exactly so many hops.
  Tables. Written by program.
  What the rounds and the functions come to. Written by program.
  Exact hops compute what their words say.
-/
import Derived.Test.YtgmefblkmidglaaResGB
namespace Go.Proofs.Ytgmefblkmidglaa
open Go.Lite
def s6 : Sig := ⟨[.agg [.k (.int .i64), .k (.ro [.int .i64, .int .i64, .int .i64, .ro [.int .i64, .int .i64]])], .k (.int .i64), .k (.int .i64)], [(.k .bool, [])]⟩
def l6_4 : LSig := mkLS [1, 2, 3, 7] [(180, [(1, .k (.int .i64)), (2, .k (.int .i64)), (3, .ptr 0 2 0 0), (7, .k (.int .i64))], [.box [.k (.int .i64), .k (.ro [.int .i64, .int .i64, .int .i64, .ro [.int .i64, .int .i64]])]])] [(.ret, [6], [(180, [(6, .k .bool)], [])]), (.exit 0, [1, 2, 3], [(180, [(1, .k (.int .i64)), (2, .k (.int .i64)), (3, .ptr 0 2 0 0)], [.box [.k (.int .i64), .k (.ro [.int .i64, .int .i64, .int .i64, .ro [.int .i64, .int .i64]])]])])]
def l6_12 : LSig := mkLS [1, 3, 8, 10] [(180, [(1, .k (.int .i64)), (3, .ptr 0 2 0 0), (8, .sl 1 1), (10, .k (.int .i64))], [.box [.k (.int .i64), .k (.ro [.int .i64, .int .i64, .int .i64, .ro [.int .i64, .int .i64]])], .row [.int .i64]])] [(.exit 2, [3, 8], [(180, [(3, .ptr 0 2 0 0), (8, .sl 1 1)], [.box [.k (.int .i64), .k (.ro [.int .i64, .int .i64, .int .i64, .ro [.int .i64, .int .i64]])], .row [.int .i64]])]), (.ret, [6], [(180, [(6, .k .bool)], [])])]
def l6_17 : LSig := mkLS [1, 3, 8, 10, 11, 12] [(180, [(1, .k (.int .i64)), (3, .ptr 0 2 0 0), (8, .sl 1 1), (10, .k (.int .i64)), (11, .k .bool), (12, .k (.int .i64))], [.box [.k (.int .i64), .k (.ro [.int .i64, .int .i64, .int .i64, .ro [.int .i64, .int .i64]])], .row [.int .i64]])] [(.exit 4, [1, 3, 8, 10, 11], [(180, [(1, .k (.int .i64)), (3, .ptr 0 2 0 0), (8, .sl 1 1), (10, .k (.int .i64)), (11, .k .bool)], [.box [.k (.int .i64), .k (.ro [.int .i64, .int .i64, .int .i64, .ro [.int .i64, .int .i64]])], .row [.int .i64]])])]
def l6_24 : LSig := mkLS [3, 8, 14] [(180, [(3, .ptr 0 2 0 0), (8, .sl 1 1), (14, .k (.int .i64))], [.box [.k (.int .i64), .k (.ro [.int .i64, .int .i64, .int .i64, .ro [.int .i64, .int .i64]])], .row [.int .i64]])] [(.ret, [6], [(180, [(6, .k .bool)], [])]), (.exit 6, [], [(180, [], [])])]
end Go.Proofs.Ytgmefblkmidglaa

namespace Go.Proofs.Ytgmefblkmidglaa
open Go.Lite
noncomputable section
def openB (r : List (List D)) (i : Nat) : Bool := decide ((lx (r.getD i []) 3).length = 0)
def ledB (r a : List (List D)) (k : Int) (j : Nat) : Bool := decide (ix (r.getD j []) 1 = k ∧ 0 ≤ rg a (ix (r.getD j []) 0).toNat ∧ rg a (ix (r.getD j []) 0).toNat + ix (r.getD j []) 2 = rg a k.toNat)
def anyLed (r a : List (List D)) (k : Int) (i m : Nat) : Bool := !allFrom (fun j => !ledB r a k j) i m
def ledR (r a : List (List D)) (v : Int) (k : Nat) : Bool := decide ((k : Int) = v ∨ rg a k < 0) || anyLed r a k 0 r.length
def tightB (r a : List (List D)) (j : Nat) : Bool := decide (rg a (ix (r.getD j []) 0).toNat < 0 ∨ 0 ≤ rg a (ix (r.getD j []) 1).toNat ∧ rg a (ix (r.getD j []) 1).toNat ≤ rg a (ix (r.getD j []) 0).toNat + ix (r.getD j []) 2)
def G6_4 (ds : List D) : T (Ex × List D) := match ds with
  | [v, t, i, n, r] => .need (yes (r.L.length ≤ 1000 ∧ 0 ≤ i.I ∧ i.I ≤ r.L.length)) (.ite (allFrom (openB r.L) i.I.toNat (r.L.length - i.I.toNat)) (.leaf (.exit 0, [.i v.I, .i t.I, .i n.I, .l r.L])) (.leaf (.ret, [.b true])))
  | _ => .fail
def G6_12 (ds : List D) : T (Ex × List D) := match ds with
  | [v, m, k, n, r, a] => .need (yes (netB n.I r.L = true ∧ m.I = n.I ∧ okAt n.I 1000 a.L ∧ 0 ≤ k.I ∧ k.I ≤ n.I)) (.ite (allFrom (ledR r.L a.L v.I) k.I.toNat (n.I.toNat - k.I.toNat)) (.leaf (.exit 2, [.i n.I, .i n.I, .l r.L, .l a.L])) (.leaf (.ret, [.b false])))
  | _ => .fail
def G6_17 (ds : List D) : T (Ex × List D) := match ds with
  | [v, m, k, b, i, n, r, a] => .need (yes (netB n.I r.L = true ∧ m.I = n.I ∧ okAt n.I 1000 a.L ∧ (0 ≤ k.I ∧ k.I < n.I) ∧ 0 ≤ i.I ∧ i.I ≤ r.L.length))
      (.leaf (.exit 4, [.i v.I, .i n.I, .i k.I, .b (b.B || anyLed r.L a.L k.I i.I.toNat (r.L.length - i.I.toNat)), .i n.I, .l r.L, .l a.L]))
  | _ => .fail
def G6_24 (ds : List D) : T (Ex × List D) := match ds with
  | [m, i, n, r, a] => .need (yes (netB n.I r.L = true ∧ m.I = n.I ∧ okAt n.I 1000 a.L ∧ 0 ≤ i.I ∧ i.I ≤ r.L.length)) (.ite (allFrom (tightB r.L a.L) i.I.toNat (r.L.length - i.I.toNat)) (.leaf (.exit 6, [])) (.leaf (.ret, [.b false])))
  | _ => .fail
end
end Go.Proofs.Ytgmefblkmidglaa

namespace Go.Proofs.Ytgmefblkmidglaa
open Go.Lite
noncomputable def sp6 : SpL := [(15, mkF s15 G15), (19, mkF s19 G19), (20, mkF s20 G20), (17, mkF s17 G17)]
noncomputable def lp6 : LpL := [(4, mkL l6_4 G6_4), (12, mkL l6_12 G6_12), (17, mkL l6_17 G6_17), (24, mkL l6_24 G6_24)]
noncomputable def sw6 : SwL := []
noncomputable def tab6 : Tab := mkTab sp6 lp6 sw6
end Go.Proofs.Ytgmefblkmidglaa

namespace Go.Proofs.Ytgmefblkmidglaa
open Go.Lite
set_option linter.unusedVariables false
set_option maxRecDepth 100000
theorem t6 (a b c d : D) : fnT C tab6 6 s6 [a, b, c, d] =
  T.ite (!smallB (D.I a) (D.L b)) (T.leaf [D.b true]) (T.ite (!netB (D.I a) (D.L b)) (T.leaf [D.b true]) (T.ite (!nodeB (D.I a) (D.I c) (D.I d)) (T.leaf [D.b true]) (T.ite (decide (D.I a > (7 : Int))) (T.leaf [D.b true]) (T.need (yes (List.length (D.L b) ≤ 1000 ∧ (0 : Int) ≤ (0 : Int) ∧ (0 : Int) ≤ (↑(List.length (D.L b)) : Int))) (T.ite (allFrom (openB (D.L b)) (Int.toNat (0 : Int)) (List.length (D.L b) - Int.toNat (0 : Int))) (T.ite (netB (D.I a) (D.L b) && nodeB (D.I a) (D.I c) (D.I d)) (T.ite false (T.leaf [D.b false]) (T.ite ((↑(Int.toNat (D.I a)) : Int) != D.I a) (T.leaf [D.b false]) (T.need (decide ((0 : Int) ≤ D.I c ∧ D.I c < (↑(Int.toNat (D.I a)) : Int))) (T.need (decide (Int.toNat (D.I c) < List.length (arrF (D.I a) (D.L b) (D.I c) (D.I d)))) (T.ite (D.I (List.getD (List.getD (arrF (D.I a) (D.L b) (D.I c) (D.I d)) (Int.toNat (D.I c)) []) 0 default) != D.I d) (T.leaf [D.b false]) (T.need (yes (netB (D.I a) (D.L b) = true ∧ (↑(Int.toNat (D.I a)) : Int) = D.I a ∧ okAt (D.I a) (1000 : Int) (arrF (D.I a) (D.L b) (D.I c) (D.I d)) ∧ (0 : Int) ≤ (0 : Int) ∧ (0 : Int) ≤ D.I a)) (T.ite (allFrom (ledR (D.L b) (arrF (D.I a) (D.L b) (D.I c) (D.I d)) (D.I c)) (Int.toNat (0 : Int)) (Int.toNat (D.I a) - Int.toNat (0 : Int))) (T.need (yes (netB (D.I a) (D.L b) = true ∧ (↑(Int.toNat (D.I a)) : Int) = D.I a ∧ okAt (D.I a) (1000 : Int) (arrF (D.I a) (D.L b) (D.I c) (D.I d)) ∧ (0 : Int) ≤ (0 : Int) ∧ (0 : Int) ≤ (↑(List.length (D.L b)) : Int))) (T.ite (allFrom (tightB (D.L b) (arrF (D.I a) (D.L b) (D.I c) (D.I d))) (Int.toNat (0 : Int)) (List.length (D.L b) - Int.toNat (0 : Int))) (T.leaf [D.b true]) (T.leaf [D.b false]))) (T.leaf [D.b false])))))))) (T.ite true (T.leaf [D.b false]) (T.ite ((↑0 : Int) != D.I a) (T.leaf [D.b false]) T.fail))) (T.leaf [D.b true])))))) := by kernel_rfl
theorem t6_4 (a b c d e : D) : roundT C tab6 6 (loopOf C.P 6 4) l6_4 [a, b, c, d, e] =
  T.ite (decide (D.I c < (↑(List.length (D.L e)) : Int))) (T.need (decide ((0 : Int) ≤ D.I c ∧ D.I c < (↑(List.length (D.L e)) : Int))) (T.ite (decide ((↑(List.length (D.L (List.getD (List.getD (D.L e) (Int.toNat (D.I c)) []) (0 + 1 + 1 + 1) default))) : Int) > (0 : Int))) (T.leaf (Rd.out Ex.ret [D.b true])) (T.leaf (Rd.again [D.i (D.I a), D.i (D.I b), D.i (IntKind.wrap IntKind.i64 (D.I c + (1 : Int))), D.i (D.I d), D.l (D.L e)])))) (T.leaf (Rd.out (Ex.exit 0) [D.i (D.I a), D.i (D.I b), D.i (D.I d), D.l (D.L e)])) := by kernel_rfl
theorem t6_12 (a b c d e f : D) : roundT C tab6 6 (loopOf C.P 6 12) l6_12 [a, b, c, d, e, f] =
  T.ite (decide (D.I c < D.I d)) (T.ite (D.I c == D.I a) (T.leaf (Rd.again [D.i (D.I a), D.i (↑(Int.toNat (D.I b)) : Int), D.i (IntKind.wrap IntKind.i64 (D.I c + (1 : Int))), D.i (D.I d), D.l (D.L e), D.l (D.L f)])) (T.need (decide ((0 : Int) ≤ D.I c ∧ D.I c < (↑(Int.toNat (D.I b)) : Int))) (T.need (decide (Int.toNat (D.I c) < List.length (D.L f))) (T.ite (decide (D.I (List.getD (List.getD (D.L f) (Int.toNat (D.I c)) []) 0 default) < (0 : Int))) (T.leaf (Rd.again [D.i (D.I a), D.i (↑(Int.toNat (D.I b)) : Int), D.i (IntKind.wrap IntKind.i64 (D.I c + (1 : Int))), D.i (D.I d), D.l (D.L e), D.l (D.L f)])) (T.need (yes (netB (D.I d) (D.L e) = true ∧ (↑(Int.toNat (D.I b)) : Int) = D.I d ∧ okAt (D.I d) (1000 : Int) (D.L f) ∧ ((0 : Int) ≤ D.I c ∧ D.I c < D.I d) ∧ (0 : Int) ≤ (0 : Int) ∧ (0 : Int) ≤ (↑(List.length (D.L e)) : Int))) (T.ite (!(false || anyLed (D.L e) (D.L f) (D.I c) (Int.toNat (0 : Int)) (List.length (D.L e) - Int.toNat (0 : Int)))) (T.leaf (Rd.out Ex.ret [D.b false])) (T.leaf (Rd.again [D.i (D.I a), D.i (↑(Int.toNat (D.I d)) : Int), D.i (IntKind.wrap IntKind.i64 (D.I c + (1 : Int))), D.i (D.I d), D.l (D.L e), D.l (D.L f)])))))))) (T.leaf (Rd.out (Ex.exit 2) [D.i (↑(Int.toNat (D.I b)) : Int), D.i (D.I d), D.l (D.L e), D.l (D.L f)])) := by kernel_rfl
theorem t6_17 (a b c d e f g h : D) : roundT C tab6 6 (loopOf C.P 6 17) l6_17 [a, b, c, d, e, f, g, h] =
  T.ite (decide (D.I e < (↑(List.length (D.L g)) : Int))) (T.need (decide ((0 : Int) ≤ D.I e ∧ D.I e < (↑(List.length (D.L g)) : Int))) (T.ite (D.B d) (T.leaf (Rd.again [D.i (D.I a), D.i (↑(Int.toNat (D.I b)) : Int), D.i (D.I c), D.b true, D.i (IntKind.wrap IntKind.i64 (D.I e + (1 : Int))), D.i (D.I f), D.l (D.L g), D.l (D.L h)])) (T.ite (D.I (List.getD (List.getD (D.L g) (Int.toNat (D.I e)) []) (0 + 1) default) == D.I c) (T.need (decide ((0 : Int) ≤ D.I (List.getD (List.getD (D.L g) (Int.toNat (D.I e)) []) 0 default) ∧ D.I (List.getD (List.getD (D.L g) (Int.toNat (D.I e)) []) 0 default) < (↑(Int.toNat (D.I b)) : Int))) (T.need (decide (Int.toNat (D.I (List.getD (List.getD (D.L g) (Int.toNat (D.I e)) []) 0 default)) < List.length (D.L h))) (T.ite (decide (D.I (List.getD (List.getD (D.L h) (Int.toNat (D.I (List.getD (List.getD (D.L g) (Int.toNat (D.I e)) []) 0 default))) []) 0 default) ≥ (0 : Int))) (T.need (decide ((0 : Int) ≤ D.I (List.getD (List.getD (D.L g) (Int.toNat (D.I e)) []) 0 default) ∧ D.I (List.getD (List.getD (D.L g) (Int.toNat (D.I e)) []) 0 default) < (↑(Int.toNat (D.I b)) : Int))) (T.need (decide (Int.toNat (D.I (List.getD (List.getD (D.L g) (Int.toNat (D.I e)) []) 0 default)) < List.length (D.L h))) (T.need (decide ((0 : Int) ≤ D.I c ∧ D.I c < (↑(Int.toNat (D.I b)) : Int))) (T.need (decide (Int.toNat (D.I c) < List.length (D.L h))) (T.leaf (Rd.again [D.i (D.I a), D.i (↑(Int.toNat (D.I b)) : Int), D.i (D.I c), D.b (IntKind.wrap IntKind.i64 (D.I (List.getD (List.getD (D.L h) (Int.toNat (D.I (List.getD (List.getD (D.L g) (Int.toNat (D.I e)) []) 0 default))) []) 0 default) + D.I (List.getD (List.getD (D.L g) (Int.toNat (D.I e)) []) (0 + 1 + 1) default)) == D.I (List.getD (List.getD (D.L h) (Int.toNat (D.I c)) []) 0 default)), D.i (IntKind.wrap IntKind.i64 (D.I e + (1 : Int))), D.i (D.I f), D.l (D.L g), D.l (D.L h)])))))) (T.leaf (Rd.again [D.i (D.I a), D.i (↑(Int.toNat (D.I b)) : Int), D.i (D.I c), D.b false, D.i (IntKind.wrap IntKind.i64 (D.I e + (1 : Int))), D.i (D.I f), D.l (D.L g), D.l (D.L h)]))))) (T.leaf (Rd.again [D.i (D.I a), D.i (↑(Int.toNat (D.I b)) : Int), D.i (D.I c), D.b false, D.i (IntKind.wrap IntKind.i64 (D.I e + (1 : Int))), D.i (D.I f), D.l (D.L g), D.l (D.L h)]))))) (T.leaf (Rd.out (Ex.exit 4) [D.i (D.I a), D.i (↑(Int.toNat (D.I b)) : Int), D.i (D.I c), D.b (D.B d), D.i (D.I f), D.l (D.L g), D.l (D.L h)])) := by kernel_rfl
theorem t6_24 (a b c d e : D) : roundT C tab6 6 (loopOf C.P 6 24) l6_24 [a, b, c, d, e] =
  T.ite (decide (D.I b < (↑(List.length (D.L d)) : Int))) (T.need (decide ((0 : Int) ≤ D.I b ∧ D.I b < (↑(List.length (D.L d)) : Int))) (T.need (decide ((0 : Int) ≤ D.I (List.getD (List.getD (D.L d) (Int.toNat (D.I b)) []) 0 default) ∧ D.I (List.getD (List.getD (D.L d) (Int.toNat (D.I b)) []) 0 default) < (↑(Int.toNat (D.I a)) : Int))) (T.need (decide (Int.toNat (D.I (List.getD (List.getD (D.L d) (Int.toNat (D.I b)) []) 0 default)) < List.length (D.L e))) (T.ite (decide (D.I (List.getD (List.getD (D.L e) (Int.toNat (D.I (List.getD (List.getD (D.L d) (Int.toNat (D.I b)) []) 0 default))) []) 0 default) ≥ (0 : Int))) (T.need (decide ((0 : Int) ≤ D.I (List.getD (List.getD (D.L d) (Int.toNat (D.I b)) []) (0 + 1) default) ∧ D.I (List.getD (List.getD (D.L d) (Int.toNat (D.I b)) []) (0 + 1) default) < (↑(Int.toNat (D.I a)) : Int))) (T.need (decide (Int.toNat (D.I (List.getD (List.getD (D.L d) (Int.toNat (D.I b)) []) (0 + 1) default)) < List.length (D.L e))) (T.ite (decide (D.I (List.getD (List.getD (D.L e) (Int.toNat (D.I (List.getD (List.getD (D.L d) (Int.toNat (D.I b)) []) (0 + 1) default))) []) 0 default) < (0 : Int))) (T.leaf (Rd.out Ex.ret [D.b false])) (T.need (decide ((0 : Int) ≤ D.I (List.getD (List.getD (D.L d) (Int.toNat (D.I b)) []) (0 + 1) default) ∧ D.I (List.getD (List.getD (D.L d) (Int.toNat (D.I b)) []) (0 + 1) default) < (↑(Int.toNat (D.I a)) : Int))) (T.need (decide (Int.toNat (D.I (List.getD (List.getD (D.L d) (Int.toNat (D.I b)) []) (0 + 1) default)) < List.length (D.L e))) (T.need (decide ((0 : Int) ≤ D.I (List.getD (List.getD (D.L d) (Int.toNat (D.I b)) []) 0 default) ∧ D.I (List.getD (List.getD (D.L d) (Int.toNat (D.I b)) []) 0 default) < (↑(Int.toNat (D.I a)) : Int))) (T.need (decide (Int.toNat (D.I (List.getD (List.getD (D.L d) (Int.toNat (D.I b)) []) 0 default)) < List.length (D.L e))) (T.ite (decide (D.I (List.getD (List.getD (D.L e) (Int.toNat (D.I (List.getD (List.getD (D.L d) (Int.toNat (D.I b)) []) (0 + 1) default))) []) 0 default) > IntKind.wrap IntKind.i64 (D.I (List.getD (List.getD (D.L e) (Int.toNat (D.I (List.getD (List.getD (D.L d) (Int.toNat (D.I b)) []) 0 default))) []) 0 default) + D.I (List.getD (List.getD (D.L d) (Int.toNat (D.I b)) []) (0 + 1 + 1) default)))) (T.leaf (Rd.out Ex.ret [D.b false])) (T.leaf (Rd.again [D.i (↑(Int.toNat (D.I a)) : Int), D.i (IntKind.wrap IntKind.i64 (D.I b + (1 : Int))), D.i (D.I c), D.l (D.L d), D.l (D.L e)])))))))))) (T.leaf (Rd.again [D.i (↑(Int.toNat (D.I a)) : Int), D.i (IntKind.wrap IntKind.i64 (D.I b + (1 : Int))), D.i (D.I c), D.l (D.L d), D.l (D.L e)])))))) (T.leaf (Rd.out (Ex.exit 6) [])) := by kernel_rfl
end Go.Proofs.Ytgmefblkmidglaa

namespace Go.Proofs.Ytgmefblkmidglaa
open Go.Lite
def s50 : Sig := ⟨[.agg [.k (.int .i64), .k (.ro [.int .i64, .int .i64, .int .i64, .ro [.int .i64, .int .i64]])], .agg [.k (.int .i64), .k (.int .i64)], .k (.int .i64), .k (.int .i64)], [(.k (.int .i64), [])]⟩
def l50_3 : LSig := mkLS [2, 3, 4, 5, 9, 19, 20] [(88, [(2, .k (.int .i64)), (3, .k (.int .i64)), (4, .ptr 0 2 0 0), (5, .ptr 1 2 0 0), (9, .sl 2 1), (19, .k (.int .i64)), (20, .k (.int .i64))], [.box [.k (.int .i64), .k (.ro [.int .i64, .int .i64, .int .i64, .ro [.int .i64, .int .i64]])], .box [.k (.int .i64), .k (.int .i64)], .row [.int .i64]])] [(.exit 0, [2, 3, 4, 5, 9], [(88, [(2, .k (.int .i64)), (3, .k (.int .i64)), (4, .ptr 0 2 0 0), (5, .ptr 1 2 0 0), (9, .sl 2 1)], [.box [.k (.int .i64), .k (.ro [.int .i64, .int .i64, .int .i64, .ro [.int .i64, .int .i64]])], .box [.k (.int .i64), .k (.int .i64)], .row [.int .i64]])])]
def l50_9 : LSig := mkLS [2, 4, 9, 33, 34] [(88, [(2, .k (.int .i64)), (4, .ptr 0 2 0 0), (9, .sl 1 1), (33, .k (.int .i64)), (34, .k (.int .i64))], [.box [.k (.int .i64), .k (.ro [.int .i64, .int .i64, .int .i64, .ro [.int .i64, .int .i64]])], .row [.int .i64]])] [(.exit 2, [2, 9], [(88, [(2, .k (.int .i64)), (9, .sl 0 1)], [.row [.int .i64]])])]
def l50_12 : LSig := mkLS [2, 4, 9, 11, 33, 34, 40, 41] [(88, [(2, .k (.int .i64)), (4, .ptr 0 2 0 0), (9, .sl 1 1), (11, .sl 2 1), (33, .k (.int .i64)), (34, .k (.int .i64)), (40, .k (.int .i64)), (41, .k (.int .i64))], [.box [.k (.int .i64), .k (.ro [.int .i64, .int .i64, .int .i64, .ro [.int .i64, .int .i64]])], .row [.int .i64], .row [.int .i64]])] [(.exit 4, [2, 4, 9, 11, 33, 34], [(88, [(2, .k (.int .i64)), (4, .ptr 0 2 0 0), (9, .sl 1 1), (11, .sl 2 1), (33, .k (.int .i64)), (34, .k (.int .i64))], [.box [.k (.int .i64), .k (.ro [.int .i64, .int .i64, .int .i64, .ro [.int .i64, .int .i64]])], .row [.int .i64], .row [.int .i64]])])]
def l50_17 : LSig := mkLS [2, 4, 9, 11, 33, 34, 49, 50, 51] [(88, [(2, .k (.int .i64)), (4, .ptr 0 2 0 0), (9, .sl 1 1), (11, .sl 2 1), (33, .k (.int .i64)), (34, .k (.int .i64)), (49, .k (.ro [.int .i64, .int .i64, .int .i64, .ro [.int .i64, .int .i64]])), (50, .k (.int .i64)), (51, .k (.int .i64))], [.box [.k (.int .i64), .k (.ro [.int .i64, .int .i64, .int .i64, .ro [.int .i64, .int .i64]])], .row [.int .i64], .row [.int .i64]])] [(.exit 6, [2, 4, 11, 33, 34], [(88, [(2, .k (.int .i64)), (4, .ptr 0 2 0 0), (11, .sl 1 1), (33, .k (.int .i64)), (34, .k (.int .i64))], [.box [.k (.int .i64), .k (.ro [.int .i64, .int .i64, .int .i64, .ro [.int .i64, .int .i64]])], .row [.int .i64]])])]
end Go.Proofs.Ytgmefblkmidglaa

namespace Go.Proofs.Ytgmefblkmidglaa
open Go.Lite
noncomputable section
def ex1 (c : List D) (a x : List (List D)) : List (List D) :=
  if rg a (ix c 0).toNat < 9223372036854775807 then rs x (ix c 1).toNat (if entW c (rg a (ix c 0).toNat) + ix c 2 < rg x (ix c 1).toNat then entW c (rg a (ix c 0).toNat) + ix c 2 else rg x (ix c 1).toNat) else x
def exF (r a : List (List D)) : Nat → Nat → List (List D) → List (List D)
  | _, 0, x => x
  | i, k + 1, x => exF r a (i + 1) k (ex1 (r.getD i []) a x)
def noneL (n : Int) : List (List D) := List.replicate n.toNat [.i 9223372036854775807]
def exactF (n : Int) (r : List (List D)) : Nat → List (List D) → List (List D)
  | 0, a => a
  | k + 1, a => exactF n r k (exF r a 0 r.length (noneL n))
/-- Times after exactly so many hops. -/
def okEx (n : Int) (k : Int) (a : List (List D)) : Prop := (a.length : Int) = n ∧ ∀ v, 0 ≤ rg a v ∧ (rg a v ≤ 1099511627776 + 10000 * k ∨ rg a v = 9223372036854775807)
def startE (n v t : Int) : List (List D) := rs (noneL n) v.toNat t
def G50 (ds : List D) : T (List D) := match ds with
  | [n, r, v, t, to, h] => .need (yes (netB n.I r.L = true ∧ (0 ≤ v.I ∧ v.I < n.I) ∧ (0 ≤ t.I ∧ t.I ≤ 1099511627776) ∧ (0 ≤ to.I ∧ to.I < n.I) ∧ 0 ≤ h.I ∧ h.I ≤ 1000)) (.leaf [.i (rg (exactF n.I r.L h.I.toNat (startE n.I v.I t.I)) to.I.toNat)])
  | _ => .fail
def G50_3 (ds : List D) : T (Ex × List D) := match ds with
  | [to, h, m, m', i, n, r, v, t, a] => .need (yes ((1 ≤ n.I ∧ n.I ≤ 200) ∧ m.I = n.I ∧ m'.I = n.I ∧ (a.L.length : Int) = n.I ∧ 0 ≤ i.I ∧ i.I ≤ n.I)) (.leaf (.exit 0, [.i to.I, .i h.I, .i n.I, .i n.I, .l r.L, .i v.I, .i t.I, .l (fillF 9223372036854775807 i.I.toNat (n.I.toNat - i.I.toNat) a.L)]))
  | _ => .fail
def G50_9 (ds : List D) : T (Ex × List D) := match ds with
  | [to, m, h, k, n, r, a] => .need (yes (netB n.I r.L = true ∧ m.I = n.I ∧ okEx n.I k.I a.L ∧ 0 ≤ k.I ∧ k.I ≤ h.I ∧ h.I ≤ 1000)) (.leaf (.exit 2, [.i to.I, .i n.I, .l (exactF n.I r.L (h.I.toNat - k.I.toNat) a.L)]))
  | _ => .fail
def G50_12 (ds : List D) : T (Ex × List D) := match ds with
  | [to, m, m', h, k, q, i, n, r, a, x] => .need (yes ((1 ≤ n.I ∧ n.I ≤ 200) ∧ m.I = n.I ∧ m'.I = n.I ∧ q.I = n.I ∧ (a.L.length : Int) = n.I ∧ (x.L.length : Int) = n.I ∧ 0 ≤ i.I ∧ i.I ≤ n.I))
      (.leaf (.exit 4, [.i to.I, .i n.I, .i n.I, .i h.I, .i k.I, .i n.I, .l r.L, .l a.L, .l (fillF 9223372036854775807 i.I.toNat (n.I.toNat - i.I.toNat) x.L)]))
  | _ => .fail
def G50_17 (ds : List D) : T (Ex × List D) := match ds with
  | [to, m, m', h, k, r', q, i, n, r, a, x] => .need (yes (netB n.I r.L = true ∧ r'.L = r.L ∧ q.I = r.L.length ∧ m.I = n.I ∧ m'.I = n.I ∧ okEx n.I k.I a.L ∧ okEx n.I (k.I + 1) x.L ∧ 0 ≤ k.I ∧ k.I ≤ 1000 ∧ 0 ≤ i.I ∧ i.I ≤ r.L.length))
      (.leaf (.exit 6, [.i to.I, .i n.I, .i h.I, .i k.I, .i n.I, .l r.L, .l (exF r.L a.L i.I.toNat (r.L.length - i.I.toNat) x.L)]))
  | _ => .fail
end
end Go.Proofs.Ytgmefblkmidglaa

namespace Go.Proofs.Ytgmefblkmidglaa
open Go.Lite
noncomputable def sp50 : SpL := [(51, mkF s51 G51)]
noncomputable def lp50 : LpL := [(3, mkL l50_3 G50_3), (9, mkL l50_9 G50_9), (12, mkL l50_12 G50_12), (17, mkL l50_17 G50_17)]
noncomputable def sw50 : SwL := []
noncomputable def tab50 : Tab := mkTab sp50 lp50 sw50
end Go.Proofs.Ytgmefblkmidglaa

namespace Go.Proofs.Ytgmefblkmidglaa
open Go.Lite
set_option linter.unusedVariables false
set_option maxRecDepth 100000
theorem t50 (a b c d e f : D) : fnT C tab50 50 s50 [a, b, c, d, e, f] =
  T.need (decide ((0 : Int) ≤ D.I a ∧ D.I a = D.I a ∧ D.I a ≤ (2 : Int) ^ 40 ∧ (↑Try.prog.types[3].bytes : Int) * D.I a ≤ (2 : Int) ^ 46)) (T.need (yes (((1 : Int) ≤ D.I a ∧ D.I a ≤ (200 : Int)) ∧ (↑(List.length (List.replicate (Int.toNat (D.I a)) [D.i (0 : Int)])) : Int) = D.I a ∧ (↑(List.length (List.replicate (Int.toNat (D.I a)) [D.i (0 : Int)])) : Int) = D.I a ∧ (↑(List.length (List.replicate (Int.toNat (D.I a)) [D.i (0 : Int)])) : Int) = D.I a ∧ (0 : Int) ≤ (0 : Int) ∧ (0 : Int) ≤ D.I a)) (T.need (decide ((0 : Int) ≤ D.I c ∧ D.I c < (↑(Int.toNat (D.I a)) : Int))) (T.need (decide (Int.toNat (D.I c) < List.length (fillF (9223372036854775807 : Int) (Int.toNat (0 : Int)) (Int.toNat (D.I a) - Int.toNat (0 : Int)) (List.replicate (Int.toNat (D.I a)) [D.i (0 : Int)])))) (T.need (yes (netB (D.I a) (D.L b) = true ∧ (↑(Int.toNat (D.I a)) : Int) = D.I a ∧ okEx (D.I a) (0 : Int) (List.set (fillF (9223372036854775807 : Int) (Int.toNat (0 : Int)) (Int.toNat (D.I a) - Int.toNat (0 : Int)) (List.replicate (Int.toNat (D.I a)) [D.i (0 : Int)])) (Int.toNat (D.I c)) (updC (List.getD (fillF (9223372036854775807 : Int) (Int.toNat (0 : Int)) (Int.toNat (D.I a) - Int.toNat (0 : Int)) (List.replicate (Int.toNat (D.I a)) [D.i (0 : Int)])) (Int.toNat (D.I c)) []) [D.i (D.I d)] 0 0 (List.length [K.int IntKind.i64]))) ∧ (0 : Int) ≤ (0 : Int) ∧ (0 : Int) ≤ D.I f ∧ D.I f ≤ (1000 : Int))) (T.need (decide ((0 : Int) ≤ D.I e ∧ D.I e < (↑(Int.toNat (D.I a)) : Int))) (T.need (decide (Int.toNat (D.I e) < List.length (exactF (D.I a) (D.L b) (Int.toNat (D.I f) - Int.toNat (0 : Int)) (List.set (fillF (9223372036854775807 : Int) (Int.toNat (0 : Int)) (Int.toNat (D.I a) - Int.toNat (0 : Int)) (List.replicate (Int.toNat (D.I a)) [D.i (0 : Int)])) (Int.toNat (D.I c)) (updC (List.getD (fillF (9223372036854775807 : Int) (Int.toNat (0 : Int)) (Int.toNat (D.I a) - Int.toNat (0 : Int)) (List.replicate (Int.toNat (D.I a)) [D.i (0 : Int)])) (Int.toNat (D.I c)) []) [D.i (D.I d)] 0 0 (List.length [K.int IntKind.i64])))))) (T.leaf [D.i (D.I (List.getD (List.getD (exactF (D.I a) (D.L b) (Int.toNat (D.I f) - Int.toNat (0 : Int)) (List.set (fillF (9223372036854775807 : Int) (Int.toNat (0 : Int)) (Int.toNat (D.I a) - Int.toNat (0 : Int)) (List.replicate (Int.toNat (D.I a)) [D.i (0 : Int)])) (Int.toNat (D.I c)) (updC (List.getD (fillF (9223372036854775807 : Int) (Int.toNat (0 : Int)) (Int.toNat (D.I a) - Int.toNat (0 : Int)) (List.replicate (Int.toNat (D.I a)) [D.i (0 : Int)])) (Int.toNat (D.I c)) []) [D.i (D.I d)] 0 0 (List.length [K.int IntKind.i64])))) (Int.toNat (D.I e)) []) 0 default))]))))))) := by kernel_rfl
theorem t50_3 (a b c d e f g h i j : D) : roundT C tab50 50 (loopOf C.P 50 3) l50_3 [a, b, c, d, e, f, g, h, i, j] =
  T.ite (decide (D.I e < D.I d)) (T.need (decide ((0 : Int) ≤ D.I e ∧ D.I e < (↑(Int.toNat (D.I c)) : Int))) (T.need (decide (Int.toNat (D.I e) < List.length (D.L j))) (T.leaf (Rd.again [D.i (D.I a), D.i (D.I b), D.i (↑(Int.toNat (D.I c)) : Int), D.i (D.I d), D.i (IntKind.wrap IntKind.i64 (D.I e + (1 : Int))), D.i (D.I f), D.l (D.L g), D.i (D.I h), D.i (D.I i), D.l (List.set (D.L j) (Int.toNat (D.I e)) (updC (List.getD (D.L j) (Int.toNat (D.I e)) []) [D.i (9223372036854775807 : Int)] 0 0 (List.length [K.int IntKind.i64])))])))) (T.leaf (Rd.out (Ex.exit 0) [D.i (D.I a), D.i (D.I b), D.i (↑(Int.toNat (D.I c)) : Int), D.i (D.I f), D.l (D.L g), D.i (D.I h), D.i (D.I i), D.l (D.L j)])) := by kernel_rfl
theorem t50_9 (a b c d e f g : D) : roundT C tab50 50 (loopOf C.P 50 9) l50_9 [a, b, c, d, e, f, g] =
  T.ite (decide (D.I d < D.I c)) (T.need (decide ((0 : Int) ≤ D.I e ∧ D.I e = D.I e ∧ D.I e ≤ (2 : Int) ^ 40 ∧ (↑Try.prog.types[3].bytes : Int) * D.I e ≤ (2 : Int) ^ 46)) (T.need (yes (((1 : Int) ≤ D.I e ∧ D.I e ≤ (200 : Int)) ∧ (↑(Int.toNat (D.I b)) : Int) = D.I e ∧ (↑(List.length (List.replicate (Int.toNat (D.I e)) [D.i (0 : Int)])) : Int) = D.I e ∧ (↑(List.length (List.replicate (Int.toNat (D.I e)) [D.i (0 : Int)])) : Int) = D.I e ∧ (↑(List.length (D.L g)) : Int) = D.I e ∧ (↑(List.length (List.replicate (Int.toNat (D.I e)) [D.i (0 : Int)])) : Int) = D.I e ∧ (0 : Int) ≤ (0 : Int) ∧ (0 : Int) ≤ D.I e)) (T.need (yes (netB (D.I e) (D.L f) = true ∧ D.L f = D.L f ∧ (↑(List.length (D.L f)) : Int) = (↑(List.length (D.L f)) : Int) ∧ (↑(Int.toNat (D.I e)) : Int) = D.I e ∧ (↑(Int.toNat (D.I e)) : Int) = D.I e ∧ okEx (D.I e) (D.I d) (D.L g) ∧ okEx (D.I e) (D.I d + (1 : Int)) (fillF (9223372036854775807 : Int) (Int.toNat (0 : Int)) (Int.toNat (D.I e) - Int.toNat (0 : Int)) (List.replicate (Int.toNat (D.I e)) [D.i (0 : Int)])) ∧ (0 : Int) ≤ D.I d ∧ D.I d ≤ (1000 : Int) ∧ (0 : Int) ≤ (0 : Int) ∧ (0 : Int) ≤ (↑(List.length (D.L f)) : Int))) (T.leaf (Rd.again [D.i (D.I a), D.i (↑(Int.toNat (D.I e)) : Int), D.i (D.I c), D.i (IntKind.wrap IntKind.i64 (D.I d + (1 : Int))), D.i (D.I e), D.l (D.L f), D.l (exF (D.L f) (D.L g) (Int.toNat (0 : Int)) (List.length (D.L f) - Int.toNat (0 : Int)) (fillF (9223372036854775807 : Int) (Int.toNat (0 : Int)) (Int.toNat (D.I e) - Int.toNat (0 : Int)) (List.replicate (Int.toNat (D.I e)) [D.i (0 : Int)])))]))))) (T.leaf (Rd.out (Ex.exit 2) [D.i (D.I a), D.i (↑(Int.toNat (D.I b)) : Int), D.l (D.L g)])) := by kernel_rfl
theorem t50_12 (a b c d e f g h i j k : D) : roundT C tab50 50 (loopOf C.P 50 12) l50_12 [a, b, c, d, e, f, g, h, i, j, k] =
  T.ite (decide (D.I g < D.I f)) (T.need (decide ((0 : Int) ≤ D.I g ∧ D.I g < (↑(Int.toNat (D.I c)) : Int))) (T.need (decide (Int.toNat (D.I g) < List.length (D.L k))) (T.leaf (Rd.again [D.i (D.I a), D.i (↑(Int.toNat (D.I b)) : Int), D.i (↑(Int.toNat (D.I c)) : Int), D.i (D.I d), D.i (D.I e), D.i (D.I f), D.i (IntKind.wrap IntKind.i64 (D.I g + (1 : Int))), D.i (D.I h), D.l (D.L i), D.l (D.L j), D.l (List.set (D.L k) (Int.toNat (D.I g)) (updC (List.getD (D.L k) (Int.toNat (D.I g)) []) [D.i (9223372036854775807 : Int)] 0 0 (List.length [K.int IntKind.i64])))])))) (T.leaf (Rd.out (Ex.exit 4) [D.i (D.I a), D.i (↑(Int.toNat (D.I b)) : Int), D.i (↑(Int.toNat (D.I c)) : Int), D.i (D.I d), D.i (D.I e), D.i (D.I h), D.l (D.L i), D.l (D.L j), D.l (D.L k)])) := by kernel_rfl
theorem t50_17 (a b c d e f g h i j k l : D) : roundT C tab50 50 (loopOf C.P 50 17) l50_17 [a, b, c, d, e, f, g, h, i, j, k, l] =
  T.ite (decide (D.I h < D.I g)) (T.need (decide ((0 : Int) ≤ D.I h ∧ D.I h < (↑(List.length (D.L f)) : Int))) (T.need (decide ((0 : Int) ≤ D.I (List.getD (List.getD (D.L f) (Int.toNat (D.I h)) []) 0 default) ∧ D.I (List.getD (List.getD (D.L f) (Int.toNat (D.I h)) []) 0 default) < (↑(Int.toNat (D.I b)) : Int))) (T.need (decide (Int.toNat (D.I (List.getD (List.getD (D.L f) (Int.toNat (D.I h)) []) 0 default)) < List.length (D.L k))) (T.ite (decide (D.I (List.getD (List.getD (D.L k) (Int.toNat (D.I (List.getD (List.getD (D.L f) (Int.toNat (D.I h)) []) 0 default))) []) 0 default) < (9223372036854775807 : Int))) (T.need (decide ((0 : Int) ≤ D.I (List.getD (List.getD (D.L f) (Int.toNat (D.I h)) []) (0 + 1) default) ∧ D.I (List.getD (List.getD (D.L f) (Int.toNat (D.I h)) []) (0 + 1) default) < (↑(Int.toNat (D.I c)) : Int))) (T.need (decide (Int.toNat (D.I (List.getD (List.getD (D.L f) (Int.toNat (D.I h)) []) (0 + 1) default)) < List.length (D.L l))) (T.need (decide ((0 : Int) ≤ D.I (List.getD (List.getD (D.L f) (Int.toNat (D.I h)) []) 0 default) ∧ D.I (List.getD (List.getD (D.L f) (Int.toNat (D.I h)) []) 0 default) < (↑(Int.toNat (D.I b)) : Int))) (T.need (decide (Int.toNat (D.I (List.getD (List.getD (D.L f) (Int.toNat (D.I h)) []) 0 default)) < List.length (D.L k))) (T.need (yes (okT (D.I (List.getD (List.getD (D.L f) (Int.toNat (D.I h)) []) (0 + 1 + 1) default)) ∧ okS (D.I (List.getD (List.getD (D.L k) (Int.toNat (D.I (List.getD (List.getD (D.L f) (Int.toNat (D.I h)) []) 0 default))) []) 0 default)) ∧ okC (D.L (List.getD (List.getD (D.L f) (Int.toNat (D.I h)) []) (0 + 1 + 1 + 1) default)))) (T.need (decide ((0 : Int) ≤ D.I (List.getD (List.getD (D.L f) (Int.toNat (D.I h)) []) (0 + 1) default) ∧ D.I (List.getD (List.getD (D.L f) (Int.toNat (D.I h)) []) (0 + 1) default) < (↑(Int.toNat (D.I c)) : Int))) (T.need (decide (Int.toNat (D.I (List.getD (List.getD (D.L f) (Int.toNat (D.I h)) []) (0 + 1) default)) < List.length (D.L l))) (T.leaf (Rd.again [D.i (D.I a), D.i (↑(Int.toNat (D.I b)) : Int), D.i (↑(Int.toNat (D.I c)) : Int), D.i (D.I d), D.i (D.I e), D.l (D.L f), D.i (D.I g), D.i (IntKind.wrap IntKind.i64 (D.I h + (1 : Int))), D.i (D.I i), D.l (D.L j), D.l (D.L k), D.l (List.set (D.L l) (Int.toNat (D.I (List.getD (List.getD (D.L f) (Int.toNat (D.I h)) []) (0 + 1) default))) (updC (List.getD (D.L l) (Int.toNat (D.I (List.getD (List.getD (D.L f) (Int.toNat (D.I h)) []) (0 + 1) default))) []) [D.i (if IntKind.wrap IntKind.i64 (entF (D.L (List.getD (List.getD (D.L f) (Int.toNat (D.I h)) []) (0 + 1 + 1 + 1) default)) (D.I (List.getD (List.getD (D.L f) (Int.toNat (D.I h)) []) (0 + 1 + 1) default)) 0 (List.length (D.L (List.getD (List.getD (D.L f) (Int.toNat (D.I h)) []) (0 + 1 + 1 + 1) default))) (D.I (List.getD (List.getD (D.L k) (Int.toNat (D.I (List.getD (List.getD (D.L f) (Int.toNat (D.I h)) []) 0 default))) []) 0 default)) + D.I (List.getD (List.getD (D.L f) (Int.toNat (D.I h)) []) (0 + 1 + 1) default)) < D.I (List.getD (List.getD (D.L l) (Int.toNat (D.I (List.getD (List.getD (D.L f) (Int.toNat (D.I h)) []) (0 + 1) default))) []) 0 default) then IntKind.wrap IntKind.i64 (entF (D.L (List.getD (List.getD (D.L f) (Int.toNat (D.I h)) []) (0 + 1 + 1 + 1) default)) (D.I (List.getD (List.getD (D.L f) (Int.toNat (D.I h)) []) (0 + 1 + 1) default)) 0 (List.length (D.L (List.getD (List.getD (D.L f) (Int.toNat (D.I h)) []) (0 + 1 + 1 + 1) default))) (D.I (List.getD (List.getD (D.L k) (Int.toNat (D.I (List.getD (List.getD (D.L f) (Int.toNat (D.I h)) []) 0 default))) []) 0 default)) + D.I (List.getD (List.getD (D.L f) (Int.toNat (D.I h)) []) (0 + 1 + 1) default)) else D.I (List.getD (List.getD (D.L l) (Int.toNat (D.I (List.getD (List.getD (D.L f) (Int.toNat (D.I h)) []) (0 + 1) default))) []) 0 default))] 0 0 (List.length [K.int IntKind.i64])))]))))))))) (T.leaf (Rd.again [D.i (D.I a), D.i (↑(Int.toNat (D.I b)) : Int), D.i (↑(Int.toNat (D.I c)) : Int), D.i (D.I d), D.i (D.I e), D.l (D.L f), D.i (D.I g), D.i (IntKind.wrap IntKind.i64 (D.I h + (1 : Int))), D.i (D.I i), D.l (D.L j), D.l (D.L k), D.l (D.L l)])))))) (T.leaf (Rd.out (Ex.exit 6) [D.i (D.I a), D.i (↑(Int.toNat (D.I c)) : Int), D.i (D.I d), D.i (D.I e), D.i (D.I i), D.l (D.L j), D.l (D.L l)])) := by kernel_rfl
end Go.Proofs.Ytgmefblkmidglaa

namespace Go.Proofs.Ytgmefblkmidglaa
open Go.Lite
set_option maxRecDepth 100000
theorem ok50_3 (n : Nat) : LoopSim C (n + 1) 50 (loopOf C.P 50 3) (mkL l50_3 G50_3) := by
  refine loop_ofK hC (sp := sp50) (lp := lp50) (sw := sw50) ⟨ok51 n, trivial⟩ trivial 0 [] (by kernel_rfl) rfl (fun k hk => by cases hk) (by kernel_rfl) (fun ds => ((ds.getD 3 default).I - (ds.getD 4 default).I).toNat) fun ds rr h => ?_
  unfold G50_3 at h
  split at h
  · rename_i to hh m m' i n' r v t a
    obtain ⟨hp, h⟩ := need_some h
    rw [yes_iff] at hp
    obtain ⟨h0, hm, hm', ha, hi0, hi1⟩ := hp
    refine ⟨by rw [fuelC]; simp; omega, ?_⟩
    rw [show roundTK C (mkTab sp50 lp50 sw50) 50 (loopOf C.P 50 3) 0 l50_3 [to, hh, m, m', i, n', r, v, t, a] = _ from t50_3 to hh m m' i n' r v t a]
    obtain ⟨j, hj⟩ : ∃ j : Nat, i.I = j := ⟨i.I.toNat, by omega⟩
    have hn : (n'.I.toNat : Int) = n'.I := by omega
    simp only [hj, hm, hm', hn, Int.toNat_natCast, upd1, rs_def] at h hi0 hi1 ⊢
    refine rd_if (fun hlt => ?_) fun hge => ?_
    · rw [wrap_succ (by omega)]
      rw [show n'.I.toNat - j = (n'.I.toNat - (j + 1)) + 1 by omega] at h
      refine rd_dec (by omega) (rd_dec (by omega) (rd_again ((need_yes ⟨h0, rfl, rfl, by simp only [L_l, I_i, len_rs]; exact ha, by simp only [I_i]; omega, by simp only [I_i]; omega⟩).trans h) ?_))
      show (n'.I - ((j + 1 : Nat) : Int)).toNat < (m'.I - i.I).toNat
      rw [hj, hm']; omega
    · rw [show n'.I.toNat - j = 0 by omega] at h
      exact rd_out h
  · cases h
theorem ok50_12 (n : Nat) : LoopSim C (n + 1) 50 (loopOf C.P 50 12) (mkL l50_12 G50_12) := by
  refine loop_ofK hC (sp := sp50) (lp := lp50) (sw := sw50) ⟨ok51 n, trivial⟩ trivial 0 [] (by kernel_rfl) rfl (fun k hk => by cases hk) (by kernel_rfl) (fun ds => ((ds.getD 5 default).I - (ds.getD 6 default).I).toNat) fun ds rr h => ?_
  unfold G50_12 at h
  split at h
  · rename_i to m m' hh k q i n' r a x
    obtain ⟨hp, h⟩ := need_some h
    rw [yes_iff] at hp
    obtain ⟨h0, hm, hm', hq, ha, hx, hi0, hi1⟩ := hp
    refine ⟨by rw [fuelC]; simp; omega, ?_⟩
    rw [show roundTK C (mkTab sp50 lp50 sw50) 50 (loopOf C.P 50 12) 0 l50_12 [to, m, m', hh, k, q, i, n', r, a, x] = _ from t50_12 to m m' hh k q i n' r a x]
    obtain ⟨j, hj⟩ : ∃ j : Nat, i.I = j := ⟨i.I.toNat, by omega⟩
    have hn : (n'.I.toNat : Int) = n'.I := by omega
    simp only [hj, hm, hm', hq, hn, Int.toNat_natCast, upd1, rs_def] at h hi0 hi1 ⊢
    refine rd_if (fun hlt => ?_) fun hge => ?_
    · rw [wrap_succ (by omega)]
      rw [show n'.I.toNat - j = (n'.I.toNat - (j + 1)) + 1 by omega] at h
      refine rd_dec (by omega) (rd_dec (by omega) (rd_again ((need_yes ⟨h0, rfl, rfl, rfl, ha, by simp only [L_l, I_i, len_rs]; exact hx, by simp only [I_i]; omega, by simp only [I_i]; omega⟩).trans h) ?_))
      show (n'.I - ((j + 1 : Nat) : Int)).toNat < (q.I - i.I).toNat
      rw [hj, hq]; omega
    · rw [show n'.I.toNat - j = 0 by omega] at h
      exact rd_out h
  · cases h
theorem ex_ok {n k : Int} {a x : List (List D)} {c : List D} (hc : roadB n c = true) (hk : 0 ≤ k) (ha : okEx n k a) (hx : okEx n (k + 1) x) : okEx n (k + 1) (ex1 c a x) := by
  obtain ⟨h1, h2, h3, -, -⟩ := road_parts hc
  obtain ⟨e1, e2, e3⟩ := entW_parts hc
  unfold ex1
  split
  · rename_i h4
    refine ⟨by rw [len_rs]; exact hx.1, fun v => ?_⟩
    have hxl := hx.1
    rw [rg_rs (by omega)]
    have h5 := ha.2 (ix c 0).toNat
    have h6 := e1 (rg a (ix c 0).toNat)
    have h7 := e2 (rg a (ix c 0).toNat)
    have h8 := hx.2 (ix c 1).toNat
    have h9 := hx.2 v
    split
    · split <;> omega
    · exact h9
  · exact hx
theorem ok50_17 (n : Nat) : LoopSim C (n + 1) 50 (loopOf C.P 50 17) (mkL l50_17 G50_17) := by
  refine loop_ofK hC (sp := sp50) (lp := lp50) (sw := sw50) ⟨ok51 n, trivial⟩ trivial 0 [] (by kernel_rfl) rfl (fun k hk => by cases hk) (by kernel_rfl) (fun ds => ((ds.getD 6 default).I - (ds.getD 7 default).I).toNat) fun ds rr h => ?_
  unfold G50_17 at h
  split at h
  · rename_i to m m' hh k r' q j n' r a x
    obtain ⟨hp, h⟩ := need_some h
    rw [yes_iff] at hp
    obtain ⟨hN, hr, hq, hm, hm', ha, hx, hk0, hk1, hj0, hj1⟩ := hp
    obtain ⟨p1, p2, p3⟩ := net_parts hN
    refine ⟨by rw [fuelC]; simp; omega, ?_⟩
    rw [show roundTK C (mkTab sp50 lp50 sw50) 50 (loopOf C.P 50 17) 0 l50_17 [to, m, m', hh, k, r', q, j, n', r, a, x] = _ from t50_17 to m m' hh k r' q j n' r a x]
    obtain ⟨i, hi⟩ : ∃ i : Nat, j.I = i := ⟨j.I.toNat, by omega⟩
    have hnn : (n'.I.toNat : Int) = n'.I := by omega
    simp only [hi, hm, hm', hr, hq, hnn, Int.toNat_natCast, Nat.reduceAdd, ix_def, lx_def, ix_rg, upd1, rs_def] at h hj0 hj1 ⊢
    refine rd_if (fun hlt => ?_) fun hge => ?_
    · have hR := p3 i (by omega)
      obtain ⟨q1, q2, q3, q4, q5⟩ := road_parts hR
      obtain ⟨e1, e2, e3⟩ := entW_parts hR
      obtain ⟨o1, o2⟩ := road_okC hR
      have hx' := ex_ok hR hk0 ha hx
      have hal := ha.1
      have hxl := hx.1
      have hat := ha.2 (ix (r.L.getD i []) 0).toNat
      have h6 := e1 (rg a.L (ix (r.L.getD i []) 0).toNat)
      have h7 := e2 (rg a.L (ix (r.L.getD i []) 0).toNat)
      rw [show r.L.length - i = (r.L.length - (i + 1)) + 1 by omega] at h
      simp only [exF] at h
      have key : ∀ y, ex1 (r.L.getD i []) a.L x.L = y → (G50_17 [.i to.I, .i n'.I, .i n'.I, .i hh.I, .i k.I, .l r.L, .i r.L.length, .i ((i + 1 : Nat) : Int), .i n'.I, .l r.L, .l a.L, .l y]).run = some rr := fun y e => by
        rw [e] at h hx'
        exact (need_yes ⟨hN, rfl, rfl, rfl, rfl, ha, hx', hk0, hk1, by simp only [I_i]; omega, by simp only [I_i, L_l]; omega⟩).trans h
      have hmu : ((r.L.length : Int) - ((i + 1 : Nat) : Int)).toNat < (q.I - j.I).toNat := by rw [hi, hq]; omega
      have f1 : ¬ rg a.L (ix (r.L.getD i []) 0).toNat < 9223372036854775807 → ex1 (r.L.getD i []) a.L x.L = x.L := fun c => if_neg c
      have f2 : rg a.L (ix (r.L.getD i []) 0).toNat < 9223372036854775807 → ex1 (r.L.getD i []) a.L x.L = rs x.L (ix (r.L.getD i []) 1).toNat (if entW (r.L.getD i []) (rg a.L (ix (r.L.getD i []) 0).toNat) + ix (r.L.getD i []) 2 < rg x.L (ix (r.L.getD i []) 1).toNat then entW (r.L.getD i []) (rg a.L (ix (r.L.getD i []) 0).toNat) + ix (r.L.getD i []) 2 else rg x.L (ix (r.L.getD i []) 1).toNat) := fun c => if_pos c
      unfold entW at f2 h6 h7
      rw [wrap_succ (by omega)]
      refine rd_dec (by omega) (rd_dec q1 (rd_dec (by have := q1.2; show (ix (r.L.getD i []) 0).toNat < a.L.length; omega) (rd_if (fun c1 => ?_) fun c1 => rd_again (key _ (f1 c1)) hmu)))
      have c1' : rg a.L (ix (r.L.getD i []) 0).toNat < 9223372036854775807 := c1
      refine rd_dec (by omega) (rd_dec (by omega) (rd_dec q1 (rd_dec (by show (ix (r.L.getD i []) 0).toNat < a.L.length; omega) (rd_yes ⟨o1, by show okS (rg a.L (ix (r.L.getD i []) 0).toNat); unfold okS; omega, o2⟩ (rd_dec (by omega) (rd_dec (by omega) (rd_again (key _ ?_) hmu)))))))
      rw [f2 c1']
      have hw : IntKind.i64.wrap (entF (lx (r.L.getD i []) 3) (ix (r.L.getD i []) 2) 0 (lx (r.L.getD i []) 3).length (rg a.L (ix (r.L.getD i []) 0).toNat) + ix (r.L.getD i []) 2) = entF (lx (r.L.getD i []) 3) (ix (r.L.getD i []) 2) 0 (lx (r.L.getD i []) 3).length (rg a.L (ix (r.L.getD i []) 0).toNat) + ix (r.L.getD i []) 2 := wrap_id (by omega) (by omega)
      simp only [ix_rg] at hw ⊢
      rw [hw]
      rfl
    · rw [show r.L.length - i = 0 by omega] at h
      exact rd_out h
  · cases h
theorem exs_ok {n k : Int} {r a : List (List D)} (hN : netB n r = true) (hk : 0 ≤ k) (ha : okEx n k a) : ∀ (m i : Nat) (x : List (List D)), i + m ≤ r.length → okEx n (k + 1) x → okEx n (k + 1) (exF r a i m x)
  | 0, _, _, _, h => h
  | m + 1, i, _, hm, h => exs_ok hN hk ha m (i + 1) _ (by omega) (ex_ok ((net_parts hN).2.2 i (by omega)) hk ha h)
theorem none_ok {n k : Int} (hn : 0 ≤ n) (hk : 0 ≤ k) : okEx n k (noneL n) := by
  unfold noneL
  refine ⟨by simp; omega, fun u => ?_⟩
  by_cases hu : u < n.toNat
  · rw [rg_rep hu]; omega
  · rw [rg_ge (by simp; omega)]; omega
theorem ok50_9 (n : Nat) : LoopSim C (n + 1) 50 (loopOf C.P 50 9) (mkL l50_9 G50_9) := by
  have hby : Try.prog.types[3].bytes = 8 := by kernel_rfl
  refine loop_ofK hC (sp := sp50) (lp := lp50) (sw := sw50) ⟨ok51 n, trivial⟩ trivial 0 [12, 17] (by kernel_rfl) (by kernel_rfl) (fun k hk L hL => by
    simp at hk; rcases hk with rfl | rfl <;> cases hL
    · exact ok50_12 n
    · exact ok50_17 n) (by kernel_rfl) (fun ds => ((ds.getD 2 default).I - (ds.getD 3 default).I).toNat) fun ds rr h => ?_
  unfold G50_9 at h
  split at h
  · rename_i to m hh k n' r a
    obtain ⟨hp, h⟩ := need_some h
    rw [yes_iff] at hp
    obtain ⟨hN, hm, ha, hk0, hk1, hk2⟩ := hp
    obtain ⟨p1, p2, p3⟩ := net_parts hN
    refine ⟨by rw [fuelC]; simp; omega, ?_⟩
    rw [show roundTK C (mkTab sp50 lp50 sw50) 50 (loopOf C.P 50 9) 0 l50_9 [to, m, hh, k, n', r, a] = _ from t50_9 to m hh k n' r a]
    obtain ⟨j, hj⟩ : ∃ j : Nat, k.I = j := ⟨k.I.toNat, by omega⟩
    have hn : (n'.I.toNat : Int) = n'.I := by omega
    have hal := ha.1
    have hno := none_ok (n := n'.I) (k := k.I + 1) (by omega) (by omega)
    have hho := exs_ok hN hk0 ha r.L.length 0 (noneL n'.I) (by omega) hno
    unfold noneL at hno hho
    simp only [hj, hm, hn, fill_all, List.length_replicate, Int.toNat_natCast, Int.toNat_zero, Nat.sub_zero] at h hk0 hk1 ha hno hho ⊢
    refine rd_if (fun hlt => ?_) fun hge => ?_
    · rw [wrap_succ (by omega)]
      rw [show hh.I.toNat - j = (hh.I.toNat - (j + 1)) + 1 by omega] at h
      refine rd_dec ⟨by omega, trivial, by omega, by rw [hby]; omega⟩ (rd_yes ⟨p1, trivial, trivial, trivial, hal, trivial, by omega, by omega⟩ (rd_yes ⟨hN, trivial, trivial, trivial, trivial, ha, hno, by omega, by omega, by omega, by omega⟩ (rd_again ((need_yes ⟨hN, rfl, hho, by simp only [I_i]; omega, by simp only [I_i]; omega, hk2⟩).trans h) ?_)))
      show (hh.I - ((j + 1 : Nat) : Int)).toNat < (hh.I - k.I).toNat
      rw [hj]; omega
    · rw [show hh.I.toNat - j = 0 by omega] at h
      exact rd_out h
  · cases h
theorem startE_ok {n v t : Int} (hn : 0 ≤ n) (hv : 0 ≤ v ∧ v < n) (ht : 0 ≤ t ∧ t ≤ 1099511627776) : okEx n 0 (startE n v t) := by
  have h := none_ok (n := n) (k := 0) hn (by omega)
  have hl := h.1
  unfold startE
  refine ⟨by rw [len_rs]; exact h.1, fun u => ?_⟩
  rw [rg_rs (by omega)]
  split
  · omega
  · exact h.2 u
theorem exact_ok {n : Int} {r : List (List D)} (hN : netB n r = true) (hn : 0 ≤ n) : ∀ (m : Nat) (k : Int) (a : List (List D)), 0 ≤ k → okEx n k a → okEx n (k + m) (exactF n r m a)
  | 0, k, a, _, h => by simpa [exactF] using h
  | m + 1, k, a, hk, h => by
    have := exact_ok hN hn m (k + 1) (exF r a 0 r.length (noneL n)) (by omega) (exs_ok hN hk h r.length 0 _ (by omega) (none_ok hn (by omega)))
    rw [show k + ((m + 1 : Nat) : Int) = k + 1 + m by omega]
    exact this
theorem ok50 (n : Nat) : FnOK C (n + 2) 50 (mkF s50 G50) := by
  have hby : Try.prog.types[3].bytes = 8 := by kernel_rfl
  refine fn_ofS hC (sp := sp50) (lp := lp50) (sw := sw50) ⟨ok51 n, trivial⟩ trivial (by kernel_rfl) [3, 9] (by kernel_rfl) (by kernel_rfl) (fun k hk L hL => by
    simp at hk; rcases hk with rfl | rfl <;> cases hL
    · exact ok50_3 n
    · exact ok50_9 n) fun ds r h => ?_
  unfold G50 at h
  split at h
  · rename_i n' r' v t to hh
    obtain ⟨hp, h⟩ := need_some h
    rw [yes_iff] at hp
    obtain ⟨hN, hv, ht, hto, hh0, hh1⟩ := hp
    obtain ⟨p1, p2, p3⟩ := net_parts hN
    refine (congrArg T.run (t50 n' r' v t to hh)).trans ?_
    have hn : (n'.I.toNat : Int) = n'.I := by omega
    have hok := startE_ok (by omega : 0 ≤ n'.I) hv ht
    have hex := (exact_ok hN (by omega) hh.I.toNat 0 _ (Int.le_refl _) hok).1
    unfold startE noneL at h hok hex
    simp only [List.length_replicate, Int.toNat_zero, Nat.sub_zero, fill_all, upd1, rs_def, hn]
    exact go_dec ⟨by omega, trivial, by omega, by rw [hby]; omega⟩ (go_yes ⟨p1, trivial, trivial, trivial, by omega, by omega⟩ (go_dec (by omega) (go_dec (by simp; omega) (go_yes ⟨hN, trivial, hok, by omega, by omega, by omega⟩ (go_dec (by omega) (go_dec (by omega) h))))))
  · cases h
end Go.Proofs.Ytgmefblkmidglaa
