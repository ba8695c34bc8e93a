/-
  Tables. Written by program.
  What the rounds and the functions come to. Written by program.
  The program's ways and the document's compute what their words say.
-/
import Derived.Test.YtgmefblkmidglaaResGD
import Derived.Test.YtgmefblkmidglaaResGC
namespace Go.Proofs.Ytgmefblkmidglaa
open Go.Lite
noncomputable def sp23 : SpL := [(18, mkF s18 G18), (45, mkF s45 G45), (46, mkF s46 G46), (50, mkF s50 G50), (51, mkF s51 G51)]
noncomputable def lp23 : LpL := [(8, mkL l23_8 G23_8), (11, mkL l23_11 G23_11), (14, mkL l23_14 G23_14)]
noncomputable def sw23 : SwL := []
noncomputable def tab23 : Tab := mkTab sp23 lp23 sw23
noncomputable def sp24 : SpL := [(22, mkF s22 G22), (49, mkF s49 G49), (25, mkF s25 G25)]
noncomputable def lp24 : LpL := [(3, mkL l24_3 G24_3), (7, mkL l24_7 G24_7), (10, mkL l24_10 G24_10)]
noncomputable def sw24 : SwL := []
noncomputable def tab24 : Tab := mkTab sp24 lp24 sw24
end Go.Proofs.Ytgmefblkmidglaa

namespace Go.Proofs.Ytgmefblkmidglaa
open Go.Lite
set_option linter.unusedVariables false
set_option maxRecDepth 100000
theorem t23 (a b c d e : D) : fnT C tab23 23 s23 [a, b, c, d, e] =
  T.ite ((if netB (D.I a) (D.L b) = true then (0 : Int) else (2 : Int)) != (0 : Int)) (T.leaf [D.i (0 : Int), D.i (0 : Int), D.i (2 : Int)]) (T.ite (!within (D.I c) (0 : Int) (IntKind.wrap IntKind.i64 (D.I a - (1 : Int)))) (T.leaf [D.i (0 : Int), D.i (0 : Int), D.i (2 : Int)]) (T.ite (!within (D.I e) (0 : Int) (IntKind.wrap IntKind.i64 (D.I a - (1 : Int)))) (T.leaf [D.i (0 : Int), D.i (0 : Int), D.i (2 : Int)]) (T.ite (!within (D.I d) (0 : Int) (100000 : Int)) (T.leaf [D.i (0 : Int), D.i (0 : Int), D.i (2 : Int)]) (T.need (yes ((0 : Int) ≤ D.I a ∧ D.I a < (1099511627776 : Int) ∧ (0 : Int) ≤ D.I c ∧ D.I c < D.I a ∧ haltS (Int.toNat (D.I a)) (D.L b) (startS (D.I a) (D.I c) (D.I d)))) (T.need (decide ((0 : Int) ≤ D.I e ∧ D.I e < (↑(Int.toNat (D.I a)) : Int))) (T.need (decide (Int.toNat (D.I e) < List.length (arrF (D.I a) (D.L b) (D.I c) (D.I d)))) (T.ite (decide (D.I (List.getD (List.getD (arrF (D.I a) (D.L b) (D.I c) (D.I d)) (Int.toNat (D.I e)) []) 0 default) < (0 : Int))) (T.leaf [D.i (0 : Int), D.i (0 : Int), D.i (5 : Int)]) (T.need (yes (netB (D.I a) (D.L b) = true ∧ ((0 : Int) ≤ (0 : Int) ∧ (0 : Int) ≤ (1000 : Int)) ∧ ((0 : Int) ≤ D.I c ∧ D.I c < D.I a) ∧ ((0 : Int) ≤ D.I d ∧ D.I d ≤ (100000 : Int)) ∧ ((0 : Int) ≤ D.I e ∧ D.I e < D.I a) ∧ comesE (D.I a) (D.L b) (D.I c) (D.I d) (D.I e) (D.I (List.getD (List.getD (arrF (D.I a) (D.L b) (D.I c) (D.I d)) (Int.toNat (D.I e)) []) 0 default)) (Int.toNat (0 : Int)))) (T.need (yes ((↑0 : Int) = (0 : Int) ∧ okWay (D.I a) (↑(hopsE (D.I a) (D.L b) (D.I c) (D.I d) (D.I e) (D.I (List.getD (List.getD (arrF (D.I a) (D.L b) (D.I c) (D.I d)) (Int.toNat (D.I e)) []) 0 default)) (Int.toNat (0 : Int))) : Int) (D.I c) (D.I d) (D.I e) (D.L b))) (T.ite (List.isEmpty (wayE (D.I a) (D.L b) (D.I e) (D.I (List.getD (List.getD (arrF (D.I a) (D.L b) (D.I c) (D.I d)) (Int.toNat (D.I e)) []) 0 default)) (Int.toNat (↑(hopsE (D.I a) (D.L b) (D.I c) (D.I d) (D.I e) (D.I (List.getD (List.getD (arrF (D.I a) (D.L b) (D.I c) (D.I d)) (Int.toNat (D.I e)) []) 0 default)) (Int.toNat (0 : Int))) : Int)) (D.I c) (D.I d))) (T.leaf [D.i (0 : Int), D.i (D.I (List.getD (List.getD (arrF (D.I a) (D.L b) (D.I c) (D.I d)) (Int.toNat (D.I e)) []) 0 default)), D.i (0 : Int)]) (T.leaf [D.i (1 : Int), D.i (↑(Int.toNat (↑(List.length (wayE (D.I a) (D.L b) (D.I e) (D.I (List.getD (List.getD (arrF (D.I a) (D.L b) (D.I c) (D.I d)) (Int.toNat (D.I e)) []) 0 default)) (Int.toNat (↑(hopsE (D.I a) (D.L b) (D.I c) (D.I d) (D.I e) (D.I (List.getD (List.getD (arrF (D.I a) (D.L b) (D.I c) (D.I d)) (Int.toNat (D.I e)) []) 0 default)) (Int.toNat (0 : Int))) : Int)) (D.I c) (D.I d))) : Int)) : Int), D.i (D.I (List.getD (List.getD (arrF (D.I a) (D.L b) (D.I c) (D.I d)) (Int.toNat (D.I e)) []) 0 default)), D.i (0 : Int), D.l (wayE (D.I a) (D.L b) (D.I e) (D.I (List.getD (List.getD (arrF (D.I a) (D.L b) (D.I c) (D.I d)) (Int.toNat (D.I e)) []) 0 default)) (Int.toNat (↑(hopsE (D.I a) (D.L b) (D.I c) (D.I d) (D.I e) (D.I (List.getD (List.getD (arrF (D.I a) (D.L b) (D.I c) (D.I d)) (Int.toNat (D.I e)) []) 0 default)) (Int.toNat (0 : Int))) : Int)) (D.I c) (D.I d))]))))))))))) := by kernel_rfl
theorem t23_8 (a b c d e f g : D) : roundT C tab23 23 (loopOf C.P 23 8) l23_8 [a, b, c, d, e, f, g] =
  T.need (yes (netB (D.I d) (D.L e) = true ∧ ((0 : Int) ≤ D.I f ∧ D.I f < D.I d) ∧ ((0 : Int) ≤ D.I g ∧ D.I g ≤ (1099511627776 : Int)) ∧ ((0 : Int) ≤ D.I a ∧ D.I a < D.I d) ∧ (0 : Int) ≤ D.I c ∧ D.I c ≤ (1000 : Int))) (T.ite (rg (exactF (D.I d) (D.L e) (Int.toNat (D.I c)) (startE (D.I d) (D.I f) (D.I g))) (Int.toNat (D.I a)) != D.I b) (T.leaf (Rd.again [D.i (D.I a), D.i (D.I b), D.i (IntKind.wrap IntKind.i64 (D.I c + (1 : Int))), D.i (D.I d), D.l (D.L e), D.i (D.I f), D.i (D.I g)])) (T.leaf (Rd.out (Ex.exit 0) [D.i (D.I a), D.i (D.I b), D.i (D.I c), D.i (D.I d), D.l (D.L e), D.i (D.I f), D.i (D.I g)]))) := by kernel_rfl
theorem t23_11_0 (a b c d e f g : D) : roundT C tab23 23 (loopOf C.P 23 11) l23_11 [.i 0, a, b, c, d, e, f, g] =
  T.ite (decide (D.I c > (0 : Int))) (T.need (yes ((↑0 : Int) = (0 : Int) ∧ okWay (D.I d) (IntKind.wrap IntKind.i64 (D.I c - (1 : Int)) + (1 : Int)) (D.I f) (D.I g) (D.I a) (D.L e) ∧ (0 : Int) ≤ IntKind.wrap IntKind.i64 (D.I c - (1 : Int)) ∧ D.L e = D.L e ∧ (↑(List.length (D.L e)) : Int) = (↑(List.length (D.L e)) : Int) ∧ (0 : Int) ≤ (0 : Int) ∧ (0 : Int) ≤ (↑(List.length (D.L e)) : Int))) (T.ite (pickB (D.L e) (qE (D.I d) (D.L e) (D.I a) (D.I b)) (Int.toNat (IntKind.wrap IntKind.i64 (D.I c - (1 : Int)))) (D.I f) (D.I g) (Int.toNat (0 : Int)) (List.length (D.L e) - Int.toNat (0 : Int))) (T.leaf (Rd.again [D.i (1 : Int), D.i (D.I a), D.i (D.I b), D.i (IntKind.wrap IntKind.i64 (D.I c - (1 : Int))), D.i (1 : Int), D.i (D.I d), D.l (D.L e), D.i (toR (D.L e) (pickI (D.L e) (qE (D.I d) (D.L e) (D.I a) (D.I b)) (Int.toNat (IntKind.wrap IntKind.i64 (D.I c - (1 : Int)))) (D.I f) (D.I g) (Int.toNat (0 : Int)) (List.length (D.L e) - Int.toNat (0 : Int)))), D.i (tmR (D.L e) (pickI (D.L e) (qE (D.I d) (D.L e) (D.I a) (D.I b)) (Int.toNat (IntKind.wrap IntKind.i64 (D.I c - (1 : Int)))) (D.I f) (D.I g) (Int.toNat (0 : Int)) (List.length (D.L e) - Int.toNat (0 : Int))) (D.I g)), D.l [[D.i (↑(pickI (D.L e) (qE (D.I d) (D.L e) (D.I a) (D.I b)) (Int.toNat (IntKind.wrap IntKind.i64 (D.I c - (1 : Int)))) (D.I f) (D.I g) (Int.toNat (0 : Int)) (List.length (D.L e) - Int.toNat (0 : Int))) : Int), D.i (entW (List.getD (D.L e) (pickI (D.L e) (qE (D.I d) (D.L e) (D.I a) (D.I b)) (Int.toNat (IntKind.wrap IntKind.i64 (D.I c - (1 : Int)))) (D.I f) (D.I g) (Int.toNat (0 : Int)) (List.length (D.L e) - Int.toNat (0 : Int))) []) (D.I g))]]])) (T.leaf (Rd.again [D.i (0 : Int), D.i (D.I a), D.i (D.I b), D.i (IntKind.wrap IntKind.i64 (D.I c - (1 : Int))), D.i (D.I d), D.l (D.L e), D.i (D.I f), D.i (D.I g)])))) (T.leaf (Rd.out (Ex.exit 2) [D.i (0 : Int), D.i (D.I b)])) := by kernel_rfl
theorem t23_11_1 (a b c d e f g h i : D) : roundT C tab23 23 (loopOf C.P 23 11) l23_11 [.i 1, a, b, c, d, e, f, g, h, i] =
  T.ite (decide (D.I c > (0 : Int))) (T.need (yes ((↑(0 + 1) : Int) = (1 : Int) ∧ okWay (D.I e) (IntKind.wrap IntKind.i64 (D.I c - (1 : Int)) + (1 : Int)) (D.I g) (D.I h) (D.I a) (D.L f) ∧ (0 : Int) ≤ IntKind.wrap IntKind.i64 (D.I c - (1 : Int)) ∧ D.L f = D.L f ∧ (↑(List.length (D.L f)) : Int) = (↑(List.length (D.L f)) : Int) ∧ ((0 : Int) ≤ (0 : Int) ∧ (0 : Int) ≤ (↑(List.length (D.L f)) : Int)) ∧ (↑(Int.toNat (D.I d)) : Int) = (↑(List.length (D.L i)) : Int) ∧ (↑(Int.toNat (D.I d)) : Int) ≤ (1000 : Int))) (T.ite (pickB (D.L f) (qE (D.I e) (D.L f) (D.I a) (D.I b)) (Int.toNat (IntKind.wrap IntKind.i64 (D.I c - (1 : Int)))) (D.I g) (D.I h) (Int.toNat (0 : Int)) (List.length (D.L f) - Int.toNat (0 : Int))) (T.leaf (Rd.again [D.i (1 : Int), D.i (D.I a), D.i (D.I b), D.i (IntKind.wrap IntKind.i64 (D.I c - (1 : Int))), D.i (↑(Int.toNat (↑(List.length (D.L i) + 1) : Int)) : Int), D.i (D.I e), D.l (D.L f), D.i (toR (D.L f) (pickI (D.L f) (qE (D.I e) (D.L f) (D.I a) (D.I b)) (Int.toNat (IntKind.wrap IntKind.i64 (D.I c - (1 : Int)))) (D.I g) (D.I h) (Int.toNat (0 : Int)) (List.length (D.L f) - Int.toNat (0 : Int)))), D.i (tmR (D.L f) (pickI (D.L f) (qE (D.I e) (D.L f) (D.I a) (D.I b)) (Int.toNat (IntKind.wrap IntKind.i64 (D.I c - (1 : Int)))) (D.I g) (D.I h) (Int.toNat (0 : Int)) (List.length (D.L f) - Int.toNat (0 : Int))) (D.I h)), D.l (D.L i ++ [hopR (D.L f) (pickI (D.L f) (qE (D.I e) (D.L f) (D.I a) (D.I b)) (Int.toNat (IntKind.wrap IntKind.i64 (D.I c - (1 : Int)))) (D.I g) (D.I h) (Int.toNat (0 : Int)) (List.length (D.L f) - Int.toNat (0 : Int))) (D.I h)])])) (T.leaf (Rd.again [D.i (1 : Int), D.i (D.I a), D.i (D.I b), D.i (IntKind.wrap IntKind.i64 (D.I c - (1 : Int))), D.i (↑(Int.toNat (↑(List.length (D.L i)) : Int)) : Int), D.i (D.I e), D.l (D.L f), D.i (D.I g), D.i (D.I h), D.l (D.L i)])))) (T.leaf (Rd.out (Ex.exit 2) [D.i (1 : Int), D.i (D.I b), D.i (↑(Int.toNat (D.I d)) : Int), D.l (D.L i)])) := by kernel_rfl
theorem t23_14_0 (a b c d e f g h i j : D) : roundT C tab23 23 (loopOf C.P 23 14) l23_14 [.i 0, a, b, c, d, e, f, g, h, i, j] =
  T.ite (decide (D.I f < D.I e)) (T.need (decide ((0 : Int) ≤ D.I f ∧ D.I f < (↑(List.length (D.L d)) : Int))) (T.ite (D.I (List.getD (List.getD (D.L d) (Int.toNat (D.I f)) []) 0 default) != D.I i) (T.leaf (Rd.again [D.i (0 : Int), D.i (D.I a), D.i (D.I b), D.i (D.I c), D.l (D.L d), D.i (D.I e), D.i (IntKind.wrap IntKind.i64 (D.I f + (1 : Int))), D.i (D.I g), D.l (D.L h), D.i (D.I i), D.i (D.I j)])) (T.need (yes (okT (D.I (List.getD (List.getD (D.L d) (Int.toNat (D.I f)) []) (0 + 1 + 1) default)) ∧ okS (D.I j) ∧ okC (D.L (List.getD (List.getD (D.L d) (Int.toNat (D.I f)) []) (0 + 1 + 1 + 1) default)))) (T.need (yes (netB (D.I g) (D.L h) = true ∧ ((0 : Int) ≤ D.I (List.getD (List.getD (D.L d) (Int.toNat (D.I f)) []) (0 + 1) default) ∧ D.I (List.getD (List.getD (D.L d) (Int.toNat (D.I f)) []) (0 + 1) default) < D.I g) ∧ ((0 : Int) ≤ IntKind.wrap IntKind.i64 (entF (D.L (List.getD (List.getD (D.L d) (Int.toNat (D.I f)) []) (0 + 1 + 1 + 1) default)) (D.I (List.getD (List.getD (D.L d) (Int.toNat (D.I f)) []) (0 + 1 + 1) default)) 0 (List.length (D.L (List.getD (List.getD (D.L d) (Int.toNat (D.I f)) []) (0 + 1 + 1 + 1) default))) (D.I j) + D.I (List.getD (List.getD (D.L d) (Int.toNat (D.I f)) []) (0 + 1 + 1) default)) ∧ IntKind.wrap IntKind.i64 (entF (D.L (List.getD (List.getD (D.L d) (Int.toNat (D.I f)) []) (0 + 1 + 1 + 1) default)) (D.I (List.getD (List.getD (D.L d) (Int.toNat (D.I f)) []) (0 + 1 + 1) default)) 0 (List.length (D.L (List.getD (List.getD (D.L d) (Int.toNat (D.I f)) []) (0 + 1 + 1 + 1) default))) (D.I j) + D.I (List.getD (List.getD (D.L d) (Int.toNat (D.I f)) []) (0 + 1 + 1) default)) ≤ (1099511627776 : Int)) ∧ ((0 : Int) ≤ D.I a ∧ D.I a < D.I g) ∧ (0 : Int) ≤ D.I c ∧ D.I c ≤ (1000 : Int))) (T.ite (rg (exactF (D.I g) (D.L h) (Int.toNat (D.I c)) (startE (D.I g) (D.I (List.getD (List.getD (D.L d) (Int.toNat (D.I f)) []) (0 + 1) default)) (IntKind.wrap IntKind.i64 (entF (D.L (List.getD (List.getD (D.L d) (Int.toNat (D.I f)) []) (0 + 1 + 1 + 1) default)) (D.I (List.getD (List.getD (D.L d) (Int.toNat (D.I f)) []) (0 + 1 + 1) default)) 0 (List.length (D.L (List.getD (List.getD (D.L d) (Int.toNat (D.I f)) []) (0 + 1 + 1 + 1) default))) (D.I j) + D.I (List.getD (List.getD (D.L d) (Int.toNat (D.I f)) []) (0 + 1 + 1) default))))) (Int.toNat (D.I a)) == D.I b) (T.need true (T.ite false T.fail (T.need true (T.leaf (Rd.out (Ex.exit 3) [D.i (D.I a), D.i (D.I b), D.i (D.I c), D.i (1 : Int), D.i (D.I g), D.l (D.L h), D.i (D.I (List.getD (List.getD (D.L d) (Int.toNat (D.I f)) []) (0 + 1) default)), D.i (IntKind.wrap IntKind.i64 (entF (D.L (List.getD (List.getD (D.L d) (Int.toNat (D.I f)) []) (0 + 1 + 1 + 1) default)) (D.I (List.getD (List.getD (D.L d) (Int.toNat (D.I f)) []) (0 + 1 + 1) default)) 0 (List.length (D.L (List.getD (List.getD (D.L d) (Int.toNat (D.I f)) []) (0 + 1 + 1 + 1) default))) (D.I j) + D.I (List.getD (List.getD (D.L d) (Int.toNat (D.I f)) []) (0 + 1 + 1) default))), D.l [[D.i (D.I f), D.i (entF (D.L (List.getD (List.getD (D.L d) (Int.toNat (D.I f)) []) (0 + 1 + 1 + 1) default)) (D.I (List.getD (List.getD (D.L d) (Int.toNat (D.I f)) []) (0 + 1 + 1) default)) 0 (List.length (D.L (List.getD (List.getD (D.L d) (Int.toNat (D.I f)) []) (0 + 1 + 1 + 1) default))) (D.I j))]]]))))) (T.leaf (Rd.again [D.i (0 : Int), D.i (D.I a), D.i (D.I b), D.i (D.I c), D.l (D.L d), D.i (D.I e), D.i (IntKind.wrap IntKind.i64 (D.I f + (1 : Int))), D.i (D.I g), D.l (D.L h), D.i (D.I i), D.i (D.I j)]))))))) (T.leaf (Rd.out (Ex.exit 4) [D.i (0 : Int), D.i (D.I a), D.i (D.I b), D.i (D.I c), D.i (D.I g), D.l (D.L h), D.i (D.I i), D.i (D.I j)])) := by kernel_rfl
theorem t23_14_1 (a b c d e f g h i j k l : D) : roundT C tab23 23 (loopOf C.P 23 14) l23_14 [.i 1, a, b, c, d, e, f, g, h, i, j, k, l] =
  T.ite (decide (D.I g < D.I f)) (T.need (decide ((0 : Int) ≤ D.I g ∧ D.I g < (↑(List.length (D.L e)) : Int))) (T.ite (D.I (List.getD (List.getD (D.L e) (Int.toNat (D.I g)) []) 0 default) != D.I j) (T.leaf (Rd.again [D.i (1 : Int), D.i (D.I a), D.i (D.I b), D.i (D.I c), D.i (↑(Int.toNat (D.I d)) : Int), D.l (D.L e), D.i (D.I f), D.i (IntKind.wrap IntKind.i64 (D.I g + (1 : Int))), D.i (D.I h), D.l (D.L i), D.i (D.I j), D.i (D.I k), D.l (D.L l)])) (T.need (yes (okT (D.I (List.getD (List.getD (D.L e) (Int.toNat (D.I g)) []) (0 + 1 + 1) default)) ∧ okS (D.I k) ∧ okC (D.L (List.getD (List.getD (D.L e) (Int.toNat (D.I g)) []) (0 + 1 + 1 + 1) default)))) (T.need (yes (netB (D.I h) (D.L i) = true ∧ ((0 : Int) ≤ D.I (List.getD (List.getD (D.L e) (Int.toNat (D.I g)) []) (0 + 1) default) ∧ D.I (List.getD (List.getD (D.L e) (Int.toNat (D.I g)) []) (0 + 1) default) < D.I h) ∧ ((0 : Int) ≤ IntKind.wrap IntKind.i64 (entF (D.L (List.getD (List.getD (D.L e) (Int.toNat (D.I g)) []) (0 + 1 + 1 + 1) default)) (D.I (List.getD (List.getD (D.L e) (Int.toNat (D.I g)) []) (0 + 1 + 1) default)) 0 (List.length (D.L (List.getD (List.getD (D.L e) (Int.toNat (D.I g)) []) (0 + 1 + 1 + 1) default))) (D.I k) + D.I (List.getD (List.getD (D.L e) (Int.toNat (D.I g)) []) (0 + 1 + 1) default)) ∧ IntKind.wrap IntKind.i64 (entF (D.L (List.getD (List.getD (D.L e) (Int.toNat (D.I g)) []) (0 + 1 + 1 + 1) default)) (D.I (List.getD (List.getD (D.L e) (Int.toNat (D.I g)) []) (0 + 1 + 1) default)) 0 (List.length (D.L (List.getD (List.getD (D.L e) (Int.toNat (D.I g)) []) (0 + 1 + 1 + 1) default))) (D.I k) + D.I (List.getD (List.getD (D.L e) (Int.toNat (D.I g)) []) (0 + 1 + 1) default)) ≤ (1099511627776 : Int)) ∧ ((0 : Int) ≤ D.I a ∧ D.I a < D.I h) ∧ (0 : Int) ≤ D.I c ∧ D.I c ≤ (1000 : Int))) (T.ite (rg (exactF (D.I h) (D.L i) (Int.toNat (D.I c)) (startE (D.I h) (D.I (List.getD (List.getD (D.L e) (Int.toNat (D.I g)) []) (0 + 1) default)) (IntKind.wrap IntKind.i64 (entF (D.L (List.getD (List.getD (D.L e) (Int.toNat (D.I g)) []) (0 + 1 + 1 + 1) default)) (D.I (List.getD (List.getD (D.L e) (Int.toNat (D.I g)) []) (0 + 1 + 1) default)) 0 (List.length (D.L (List.getD (List.getD (D.L e) (Int.toNat (D.I g)) []) (0 + 1 + 1 + 1) default))) (D.I k) + D.I (List.getD (List.getD (D.L e) (Int.toNat (D.I g)) []) (0 + 1 + 1) default))))) (Int.toNat (D.I a)) == D.I b) (T.need true (T.ite false (T.leaf (Rd.out (Ex.exit 3) [D.i (D.I a), D.i (D.I b), D.i (D.I c), D.i (↑(Int.toNat (D.I d)) : Int), D.i (D.I h), D.l (D.L i), D.i (D.I (List.getD (List.getD (D.L e) (Int.toNat (D.I g)) []) (0 + 1) default)), D.i (IntKind.wrap IntKind.i64 (entF (D.L (List.getD (List.getD (D.L e) (Int.toNat (D.I g)) []) (0 + 1 + 1 + 1) default)) (D.I (List.getD (List.getD (D.L e) (Int.toNat (D.I g)) []) (0 + 1 + 1) default)) 0 (List.length (D.L (List.getD (List.getD (D.L e) (Int.toNat (D.I g)) []) (0 + 1 + 1 + 1) default))) (D.I k) + D.I (List.getD (List.getD (D.L e) (Int.toNat (D.I g)) []) (0 + 1 + 1) default))), D.l (D.L l)])) (T.need (decide (Int.toNat (D.I d) ≤ List.length (D.L l) ∧ Int.toNat (D.I d) + List.length (List.take (List.length [[D.i (D.I g), D.i (entF (D.L (List.getD (List.getD (D.L e) (Int.toNat (D.I g)) []) (0 + 1 + 1 + 1) default)) (D.I (List.getD (List.getD (D.L e) (Int.toNat (D.I g)) []) (0 + 1 + 1) default)) 0 (List.length (D.L (List.getD (List.getD (D.L e) (Int.toNat (D.I g)) []) (0 + 1 + 1 + 1) default))) (D.I k))]]) [[D.i (D.I g), D.i (entF (D.L (List.getD (List.getD (D.L e) (Int.toNat (D.I g)) []) (0 + 1 + 1 + 1) default)) (D.I (List.getD (List.getD (D.L e) (Int.toNat (D.I g)) []) (0 + 1 + 1) default)) 0 (List.length (D.L (List.getD (List.getD (D.L e) (Int.toNat (D.I g)) []) (0 + 1 + 1 + 1) default))) (D.I k))]]) ≤ 2 ^ 62 ∧ (Int.toNat (D.I d) + List.length (List.take (List.length [[D.i (D.I g), D.i (entF (D.L (List.getD (List.getD (D.L e) (Int.toNat (D.I g)) []) (0 + 1 + 1 + 1) default)) (D.I (List.getD (List.getD (D.L e) (Int.toNat (D.I g)) []) (0 + 1 + 1) default)) 0 (List.length (D.L (List.getD (List.getD (D.L e) (Int.toNat (D.I g)) []) (0 + 1 + 1 + 1) default))) (D.I k))]]) [[D.i (D.I g), D.i (entF (D.L (List.getD (List.getD (D.L e) (Int.toNat (D.I g)) []) (0 + 1 + 1 + 1) default)) (D.I (List.getD (List.getD (D.L e) (Int.toNat (D.I g)) []) (0 + 1 + 1) default)) 0 (List.length (D.L (List.getD (List.getD (D.L e) (Int.toNat (D.I g)) []) (0 + 1 + 1 + 1) default))) (D.I k))]])) * Try.prog.types[40].bytes ≤ 2 ^ 47)) (T.leaf (Rd.out (Ex.exit 3) [D.i (D.I a), D.i (D.I b), D.i (D.I c), D.i (↑(Int.toNat (D.I d) + List.length (List.take (List.length [[D.i (D.I g), D.i (entF (D.L (List.getD (List.getD (D.L e) (Int.toNat (D.I g)) []) (0 + 1 + 1 + 1) default)) (D.I (List.getD (List.getD (D.L e) (Int.toNat (D.I g)) []) (0 + 1 + 1) default)) 0 (List.length (D.L (List.getD (List.getD (D.L e) (Int.toNat (D.I g)) []) (0 + 1 + 1 + 1) default))) (D.I k))]]) [[D.i (D.I g), D.i (entF (D.L (List.getD (List.getD (D.L e) (Int.toNat (D.I g)) []) (0 + 1 + 1 + 1) default)) (D.I (List.getD (List.getD (D.L e) (Int.toNat (D.I g)) []) (0 + 1 + 1) default)) 0 (List.length (D.L (List.getD (List.getD (D.L e) (Int.toNat (D.I g)) []) (0 + 1 + 1 + 1) default))) (D.I k))]])) : Int), D.i (D.I h), D.l (D.L i), D.i (D.I (List.getD (List.getD (D.L e) (Int.toNat (D.I g)) []) (0 + 1) default)), D.i (IntKind.wrap IntKind.i64 (entF (D.L (List.getD (List.getD (D.L e) (Int.toNat (D.I g)) []) (0 + 1 + 1 + 1) default)) (D.I (List.getD (List.getD (D.L e) (Int.toNat (D.I g)) []) (0 + 1 + 1) default)) 0 (List.length (D.L (List.getD (List.getD (D.L e) (Int.toNat (D.I g)) []) (0 + 1 + 1 + 1) default))) (D.I k) + D.I (List.getD (List.getD (D.L e) (Int.toNat (D.I g)) []) (0 + 1 + 1) default))), D.l (List.take (Int.toNat (D.I d)) (D.L l) ++ List.take (List.length [[D.i (D.I g), D.i (entF (D.L (List.getD (List.getD (D.L e) (Int.toNat (D.I g)) []) (0 + 1 + 1 + 1) default)) (D.I (List.getD (List.getD (D.L e) (Int.toNat (D.I g)) []) (0 + 1 + 1) default)) 0 (List.length (D.L (List.getD (List.getD (D.L e) (Int.toNat (D.I g)) []) (0 + 1 + 1 + 1) default))) (D.I k))]]) [[D.i (D.I g), D.i (entF (D.L (List.getD (List.getD (D.L e) (Int.toNat (D.I g)) []) (0 + 1 + 1 + 1) default)) (D.I (List.getD (List.getD (D.L e) (Int.toNat (D.I g)) []) (0 + 1 + 1) default)) 0 (List.length (D.L (List.getD (List.getD (D.L e) (Int.toNat (D.I g)) []) (0 + 1 + 1 + 1) default))) (D.I k))]])]))))) (T.leaf (Rd.again [D.i (1 : Int), D.i (D.I a), D.i (D.I b), D.i (D.I c), D.i (↑(Int.toNat (D.I d)) : Int), D.l (D.L e), D.i (D.I f), D.i (IntKind.wrap IntKind.i64 (D.I g + (1 : Int))), D.i (D.I h), D.l (D.L i), D.i (D.I j), D.i (D.I k), D.l (D.L l)]))))))) (T.leaf (Rd.out (Ex.exit 4) [D.i (1 : Int), D.i (D.I a), D.i (D.I b), D.i (D.I c), D.i (↑(Int.toNat (D.I d)) : Int), D.i (D.I h), D.l (D.L i), D.i (D.I j), D.i (D.I k), D.l (D.L l)])) := by kernel_rfl
theorem t24 (a b c d e : D) : fnT C tab24 24 s24 [a, b, c, d, e] =
  T.need (yes (netB (D.I a) (D.L b) = true ∧ ((0 : Int) ≤ D.I c ∧ D.I c < D.I a) ∧ (0 : Int) ≤ D.I d ∧ D.I d ≤ (1099511627776 : Int))) (T.need (decide ((0 : Int) ≤ D.I e ∧ D.I e < (↑(Int.toNat (D.I a)) : Int))) (T.need (decide (Int.toNat (D.I e) < List.length (reachF (D.L b) (Int.toNat (D.I a)) (beginF (D.I a) (D.I c) (D.I d))))) (T.need (yes (netB (D.I a) (D.L b) = true ∧ ((0 : Int) ≤ (0 : Int) ∧ (0 : Int) ≤ (1000 : Int)) ∧ ((0 : Int) ≤ D.I c ∧ D.I c < D.I a) ∧ ((0 : Int) ≤ D.I d ∧ D.I d ≤ (100000 : Int)) ∧ ((0 : Int) ≤ D.I e ∧ D.I e < D.I a) ∧ comesR (D.I a) (D.L b) (D.I c) (D.I d) (D.I e) (D.I (List.getD (List.getD (reachF (D.L b) (Int.toNat (D.I a)) (beginF (D.I a) (D.I c) (D.I d))) (Int.toNat (D.I e)) []) 0 default)) (Int.toNat (0 : Int)))) (T.need (yes ((↑0 : Int) = (0 : Int) ∧ okWay (D.I a) (↑(hopsR (D.I a) (D.L b) (D.I c) (D.I d) (D.I e) (D.I (List.getD (List.getD (reachF (D.L b) (Int.toNat (D.I a)) (beginF (D.I a) (D.I c) (D.I d))) (Int.toNat (D.I e)) []) 0 default)) (Int.toNat (0 : Int))) : Int) (D.I c) (D.I d) (D.I e) (D.L b))) (T.ite (List.isEmpty (wayO (D.I a) (D.L b) (D.I e) (D.I (List.getD (List.getD (reachF (D.L b) (Int.toNat (D.I a)) (beginF (D.I a) (D.I c) (D.I d))) (Int.toNat (D.I e)) []) 0 default)) (Int.toNat (↑(hopsR (D.I a) (D.L b) (D.I c) (D.I d) (D.I e) (D.I (List.getD (List.getD (reachF (D.L b) (Int.toNat (D.I a)) (beginF (D.I a) (D.I c) (D.I d))) (Int.toNat (D.I e)) []) 0 default)) (Int.toNat (0 : Int))) : Int)) (D.I c) (D.I d))) (T.leaf [D.i (0 : Int)]) (T.leaf [D.i (1 : Int), D.i (↑(Int.toNat (↑(List.length (wayO (D.I a) (D.L b) (D.I e) (D.I (List.getD (List.getD (reachF (D.L b) (Int.toNat (D.I a)) (beginF (D.I a) (D.I c) (D.I d))) (Int.toNat (D.I e)) []) 0 default)) (Int.toNat (↑(hopsR (D.I a) (D.L b) (D.I c) (D.I d) (D.I e) (D.I (List.getD (List.getD (reachF (D.L b) (Int.toNat (D.I a)) (beginF (D.I a) (D.I c) (D.I d))) (Int.toNat (D.I e)) []) 0 default)) (Int.toNat (0 : Int))) : Int)) (D.I c) (D.I d))) : Int)) : Int), D.l (wayO (D.I a) (D.L b) (D.I e) (D.I (List.getD (List.getD (reachF (D.L b) (Int.toNat (D.I a)) (beginF (D.I a) (D.I c) (D.I d))) (Int.toNat (D.I e)) []) 0 default)) (Int.toNat (↑(hopsR (D.I a) (D.L b) (D.I c) (D.I d) (D.I e) (D.I (List.getD (List.getD (reachF (D.L b) (Int.toNat (D.I a)) (beginF (D.I a) (D.I c) (D.I d))) (Int.toNat (D.I e)) []) 0 default)) (Int.toNat (0 : Int))) : Int)) (D.I c) (D.I d))])))))) := by kernel_rfl
theorem t24_3 (a b c d e f g : D) : roundT C tab24 24 (loopOf C.P 24 3) l24_3 [a, b, c, d, e, f, g] =
  T.need (yes (netB (D.I f) (D.L g) = true ∧ ((0 : Int) ≤ D.I a ∧ D.I a < D.I f) ∧ ((0 : Int) ≤ D.I b ∧ D.I b ≤ (1099511627776 : Int)) ∧ (0 : Int) ≤ D.I e ∧ D.I e ≤ (1000 : Int))) (T.need (decide ((0 : Int) ≤ D.I c ∧ D.I c < (↑(Int.toNat (D.I f)) : Int))) (T.need (decide (Int.toNat (D.I c) < List.length (reachF (D.L g) (Int.toNat (D.I e)) (beginF (D.I f) (D.I a) (D.I b))))) (T.ite (D.I (List.getD (List.getD (reachF (D.L g) (Int.toNat (D.I e)) (beginF (D.I f) (D.I a) (D.I b))) (Int.toNat (D.I c)) []) 0 default) != D.I d) (T.leaf (Rd.again [D.i (D.I a), D.i (D.I b), D.i (D.I c), D.i (D.I d), D.i (IntKind.wrap IntKind.i64 (D.I e + (1 : Int))), D.i (D.I f), D.l (D.L g)])) (T.leaf (Rd.out (Ex.exit 0) [D.i (D.I a), D.i (D.I b), D.i (D.I c), D.i (D.I d), D.i (D.I e), D.i (D.I f), D.l (D.L g)]))))) := by kernel_rfl
theorem t24_7_0 (a b c d e f g : D) : roundT C tab24 24 (loopOf C.P 24 7) l24_7 [.i 0, a, b, c, d, e, f, g] =
  T.ite (decide (D.I c > (0 : Int))) (T.need (yes ((↑0 : Int) = (0 : Int) ∧ okWay (D.I f) (D.I c) (D.I d) (D.I e) (D.I a) (D.L g) ∧ (1 : Int) ≤ D.I c ∧ (0 : Int) ≤ (0 : Int) ∧ (0 : Int) ≤ (↑(List.length (D.L g)) : Int))) (T.ite (pickB (D.L g) (qR (D.I f) (D.L g) (D.I a) (D.I b)) (Int.toNat (D.I c) - 1) (D.I d) (D.I e) (Int.toNat (0 : Int)) (List.length (D.L g) - Int.toNat (0 : Int))) (T.leaf (Rd.again [D.i (1 : Int), D.i (D.I a), D.i (D.I b), D.i (IntKind.wrap IntKind.i64 (D.I c - (1 : Int))), D.i (1 : Int), D.i (toR (D.L g) (pickI (D.L g) (qR (D.I f) (D.L g) (D.I a) (D.I b)) (Int.toNat (D.I c) - 1) (D.I d) (D.I e) (Int.toNat (0 : Int)) (List.length (D.L g) - Int.toNat (0 : Int)))), D.i (tmR (D.L g) (pickI (D.L g) (qR (D.I f) (D.L g) (D.I a) (D.I b)) (Int.toNat (D.I c) - 1) (D.I d) (D.I e) (Int.toNat (0 : Int)) (List.length (D.L g) - Int.toNat (0 : Int))) (D.I e)), D.i (D.I f), D.l (D.L g), D.l [[D.i (↑(pickI (D.L g) (qR (D.I f) (D.L g) (D.I a) (D.I b)) (Int.toNat (D.I c) - 1) (D.I d) (D.I e) (Int.toNat (0 : Int)) (List.length (D.L g) - Int.toNat (0 : Int))) : Int), D.i (entW (List.getD (D.L g) (pickI (D.L g) (qR (D.I f) (D.L g) (D.I a) (D.I b)) (Int.toNat (D.I c) - 1) (D.I d) (D.I e) (Int.toNat (0 : Int)) (List.length (D.L g) - Int.toNat (0 : Int))) []) (D.I e))]]])) (T.leaf (Rd.again [D.i (0 : Int), D.i (D.I a), D.i (D.I b), D.i (IntKind.wrap IntKind.i64 (D.I c - (1 : Int))), D.i (D.I d), D.i (D.I e), D.i (D.I f), D.l (D.L g)])))) (T.leaf (Rd.out (Ex.exit 2) [D.i (0 : Int)])) := by kernel_rfl
theorem t24_7_1 (a b c d e f g h i : D) : roundT C tab24 24 (loopOf C.P 24 7) l24_7 [.i 1, a, b, c, d, e, f, g, h, i] =
  T.ite (decide (D.I c > (0 : Int))) (T.need (yes ((↑(0 + 1) : Int) = (1 : Int) ∧ okWay (D.I g) (D.I c) (D.I e) (D.I f) (D.I a) (D.L h) ∧ (1 : Int) ≤ D.I c ∧ ((0 : Int) ≤ (0 : Int) ∧ (0 : Int) ≤ (↑(List.length (D.L h)) : Int)) ∧ (↑(Int.toNat (D.I d)) : Int) = (↑(List.length (D.L i)) : Int) ∧ (↑(Int.toNat (D.I d)) : Int) ≤ (1000 : Int))) (T.ite (pickB (D.L h) (qR (D.I g) (D.L h) (D.I a) (D.I b)) (Int.toNat (D.I c) - 1) (D.I e) (D.I f) (Int.toNat (0 : Int)) (List.length (D.L h) - Int.toNat (0 : Int))) (T.leaf (Rd.again [D.i (1 : Int), D.i (D.I a), D.i (D.I b), D.i (IntKind.wrap IntKind.i64 (D.I c - (1 : Int))), D.i (↑(Int.toNat (↑(List.length (D.L i) + 1) : Int)) : Int), D.i (toR (D.L h) (pickI (D.L h) (qR (D.I g) (D.L h) (D.I a) (D.I b)) (Int.toNat (D.I c) - 1) (D.I e) (D.I f) (Int.toNat (0 : Int)) (List.length (D.L h) - Int.toNat (0 : Int)))), D.i (tmR (D.L h) (pickI (D.L h) (qR (D.I g) (D.L h) (D.I a) (D.I b)) (Int.toNat (D.I c) - 1) (D.I e) (D.I f) (Int.toNat (0 : Int)) (List.length (D.L h) - Int.toNat (0 : Int))) (D.I f)), D.i (D.I g), D.l (D.L h), D.l (D.L i ++ [hopR (D.L h) (pickI (D.L h) (qR (D.I g) (D.L h) (D.I a) (D.I b)) (Int.toNat (D.I c) - 1) (D.I e) (D.I f) (Int.toNat (0 : Int)) (List.length (D.L h) - Int.toNat (0 : Int))) (D.I f)])])) (T.leaf (Rd.again [D.i (1 : Int), D.i (D.I a), D.i (D.I b), D.i (IntKind.wrap IntKind.i64 (D.I c - (1 : Int))), D.i (↑(Int.toNat (↑(List.length (D.L i)) : Int)) : Int), D.i (D.I e), D.i (D.I f), D.i (D.I g), D.l (D.L h), D.l (D.L i)])))) (T.leaf (Rd.out (Ex.exit 2) [D.i (1 : Int), D.i (↑(Int.toNat (D.I d)) : Int), D.l (D.L i)])) := by kernel_rfl
theorem t24_10_0 (a b c d e f g h : D) : roundT C tab24 24 (loopOf C.P 24 10) l24_10 [.i 0, a, b, c, d, e, f, g, h] =
  T.ite (decide (D.I f < (↑(List.length (D.L h)) : Int))) (T.need (decide ((0 : Int) ≤ D.I f ∧ D.I f < (↑(List.length (D.L h)) : Int))) (T.ite (D.I (List.getD (List.getD (D.L h) (Int.toNat (D.I f)) []) 0 default) != D.I d) (T.leaf (Rd.again [D.i (0 : Int), D.i (D.I a), D.i (D.I b), D.i (D.I c), D.i (D.I d), D.i (D.I e), D.i (IntKind.wrap IntKind.i64 (D.I f + (1 : Int))), D.i (D.I g), D.l (D.L h)])) (T.need (yes (okT (D.I (List.getD (List.getD (D.L h) (Int.toNat (D.I f)) []) (0 + 1 + 1) default)) ∧ okS (D.I e) ∧ okC (D.L (List.getD (List.getD (D.L h) (Int.toNat (D.I f)) []) (0 + 1 + 1 + 1) default)))) (T.need (yes (netB (D.I g) (D.L h) = true ∧ ((0 : Int) ≤ D.I (List.getD (List.getD (D.L h) (Int.toNat (D.I f)) []) (0 + 1) default) ∧ D.I (List.getD (List.getD (D.L h) (Int.toNat (D.I f)) []) (0 + 1) default) < D.I g) ∧ ((0 : Int) ≤ IntKind.wrap IntKind.i64 (entF (D.L (List.getD (List.getD (D.L h) (Int.toNat (D.I f)) []) (0 + 1 + 1 + 1) default)) (D.I (List.getD (List.getD (D.L h) (Int.toNat (D.I f)) []) (0 + 1 + 1) default)) 0 (List.length (D.L (List.getD (List.getD (D.L h) (Int.toNat (D.I f)) []) (0 + 1 + 1 + 1) default))) (D.I e) + D.I (List.getD (List.getD (D.L h) (Int.toNat (D.I f)) []) (0 + 1 + 1) default)) ∧ IntKind.wrap IntKind.i64 (entF (D.L (List.getD (List.getD (D.L h) (Int.toNat (D.I f)) []) (0 + 1 + 1 + 1) default)) (D.I (List.getD (List.getD (D.L h) (Int.toNat (D.I f)) []) (0 + 1 + 1) default)) 0 (List.length (D.L (List.getD (List.getD (D.L h) (Int.toNat (D.I f)) []) (0 + 1 + 1 + 1) default))) (D.I e) + D.I (List.getD (List.getD (D.L h) (Int.toNat (D.I f)) []) (0 + 1 + 1) default)) ≤ (1099511627776 : Int)) ∧ (0 : Int) ≤ IntKind.wrap IntKind.i64 (D.I c - (1 : Int)) ∧ IntKind.wrap IntKind.i64 (D.I c - (1 : Int)) ≤ (1000 : Int))) (T.need (decide ((0 : Int) ≤ D.I a ∧ D.I a < (↑(Int.toNat (D.I g)) : Int))) (T.need (decide (Int.toNat (D.I a) < List.length (reachF (D.L h) (Int.toNat (IntKind.wrap IntKind.i64 (D.I c - (1 : Int)))) (beginF (D.I g) (D.I (List.getD (List.getD (D.L h) (Int.toNat (D.I f)) []) (0 + 1) default)) (IntKind.wrap IntKind.i64 (entF (D.L (List.getD (List.getD (D.L h) (Int.toNat (D.I f)) []) (0 + 1 + 1 + 1) default)) (D.I (List.getD (List.getD (D.L h) (Int.toNat (D.I f)) []) (0 + 1 + 1) default)) 0 (List.length (D.L (List.getD (List.getD (D.L h) (Int.toNat (D.I f)) []) (0 + 1 + 1 + 1) default))) (D.I e) + D.I (List.getD (List.getD (D.L h) (Int.toNat (D.I f)) []) (0 + 1 + 1) default))))))) (T.ite (D.I (List.getD (List.getD (reachF (D.L h) (Int.toNat (IntKind.wrap IntKind.i64 (D.I c - (1 : Int)))) (beginF (D.I g) (D.I (List.getD (List.getD (D.L h) (Int.toNat (D.I f)) []) (0 + 1) default)) (IntKind.wrap IntKind.i64 (entF (D.L (List.getD (List.getD (D.L h) (Int.toNat (D.I f)) []) (0 + 1 + 1 + 1) default)) (D.I (List.getD (List.getD (D.L h) (Int.toNat (D.I f)) []) (0 + 1 + 1) default)) 0 (List.length (D.L (List.getD (List.getD (D.L h) (Int.toNat (D.I f)) []) (0 + 1 + 1 + 1) default))) (D.I e) + D.I (List.getD (List.getD (D.L h) (Int.toNat (D.I f)) []) (0 + 1 + 1) default))))) (Int.toNat (D.I a)) []) 0 default) == D.I b) (T.need true (T.ite false (T.leaf (Rd.out (Ex.exit 4) [D.i (1 : Int), D.i (D.I a), D.i (D.I b), D.i (D.I c), D.i (D.I (List.getD (List.getD (D.L h) (Int.toNat (D.I f)) []) (0 + 1) default)), D.i (IntKind.wrap IntKind.i64 (entF (D.L (List.getD (List.getD (D.L h) (Int.toNat (D.I f)) []) (0 + 1 + 1 + 1) default)) (D.I (List.getD (List.getD (D.L h) (Int.toNat (D.I f)) []) (0 + 1 + 1) default)) 0 (List.length (D.L (List.getD (List.getD (D.L h) (Int.toNat (D.I f)) []) (0 + 1 + 1 + 1) default))) (D.I e) + D.I (List.getD (List.getD (D.L h) (Int.toNat (D.I f)) []) (0 + 1 + 1) default))), D.i (D.I g), D.l (D.L h)])) (T.need true (T.leaf (Rd.out (Ex.exit 4) [D.i (0 : Int), D.i (D.I a), D.i (D.I b), D.i (D.I c), D.i (1 : Int), D.i (D.I (List.getD (List.getD (D.L h) (Int.toNat (D.I f)) []) (0 + 1) default)), D.i (IntKind.wrap IntKind.i64 (entF (D.L (List.getD (List.getD (D.L h) (Int.toNat (D.I f)) []) (0 + 1 + 1 + 1) default)) (D.I (List.getD (List.getD (D.L h) (Int.toNat (D.I f)) []) (0 + 1 + 1) default)) 0 (List.length (D.L (List.getD (List.getD (D.L h) (Int.toNat (D.I f)) []) (0 + 1 + 1 + 1) default))) (D.I e) + D.I (List.getD (List.getD (D.L h) (Int.toNat (D.I f)) []) (0 + 1 + 1) default))), D.i (D.I g), D.l (D.L h), D.l [[D.i (D.I f), D.i (entF (D.L (List.getD (List.getD (D.L h) (Int.toNat (D.I f)) []) (0 + 1 + 1 + 1) default)) (D.I (List.getD (List.getD (D.L h) (Int.toNat (D.I f)) []) (0 + 1 + 1) default)) 0 (List.length (D.L (List.getD (List.getD (D.L h) (Int.toNat (D.I f)) []) (0 + 1 + 1 + 1) default))) (D.I e))]]]))))) (T.leaf (Rd.again [D.i (0 : Int), D.i (D.I a), D.i (D.I b), D.i (D.I c), D.i (D.I d), D.i (D.I e), D.i (IntKind.wrap IntKind.i64 (D.I f + (1 : Int))), D.i (D.I g), D.l (D.L h)]))))))))) (T.leaf (Rd.out (Ex.exit 4) [D.i (1 : Int), D.i (D.I a), D.i (D.I b), D.i (D.I c), D.i (D.I d), D.i (D.I e), D.i (D.I g), D.l (D.L h)])) := by kernel_rfl
theorem t24_10_1 (a b c d e f g h i j : D) : roundT C tab24 24 (loopOf C.P 24 10) l24_10 [.i 1, a, b, c, d, e, f, g, h, i, j] =
  T.ite (decide (D.I g < (↑(List.length (D.L i)) : Int))) (T.need (decide ((0 : Int) ≤ D.I g ∧ D.I g < (↑(List.length (D.L i)) : Int))) (T.ite (D.I (List.getD (List.getD (D.L i) (Int.toNat (D.I g)) []) 0 default) != D.I e) (T.leaf (Rd.again [D.i (1 : Int), D.i (D.I a), D.i (D.I b), D.i (D.I c), D.i (↑(Int.toNat (D.I d)) : Int), D.i (D.I e), D.i (D.I f), D.i (IntKind.wrap IntKind.i64 (D.I g + (1 : Int))), D.i (D.I h), D.l (D.L i), D.l (D.L j)])) (T.need (yes (okT (D.I (List.getD (List.getD (D.L i) (Int.toNat (D.I g)) []) (0 + 1 + 1) default)) ∧ okS (D.I f) ∧ okC (D.L (List.getD (List.getD (D.L i) (Int.toNat (D.I g)) []) (0 + 1 + 1 + 1) default)))) (T.need (yes (netB (D.I h) (D.L i) = true ∧ ((0 : Int) ≤ D.I (List.getD (List.getD (D.L i) (Int.toNat (D.I g)) []) (0 + 1) default) ∧ D.I (List.getD (List.getD (D.L i) (Int.toNat (D.I g)) []) (0 + 1) default) < D.I h) ∧ ((0 : Int) ≤ IntKind.wrap IntKind.i64 (entF (D.L (List.getD (List.getD (D.L i) (Int.toNat (D.I g)) []) (0 + 1 + 1 + 1) default)) (D.I (List.getD (List.getD (D.L i) (Int.toNat (D.I g)) []) (0 + 1 + 1) default)) 0 (List.length (D.L (List.getD (List.getD (D.L i) (Int.toNat (D.I g)) []) (0 + 1 + 1 + 1) default))) (D.I f) + D.I (List.getD (List.getD (D.L i) (Int.toNat (D.I g)) []) (0 + 1 + 1) default)) ∧ IntKind.wrap IntKind.i64 (entF (D.L (List.getD (List.getD (D.L i) (Int.toNat (D.I g)) []) (0 + 1 + 1 + 1) default)) (D.I (List.getD (List.getD (D.L i) (Int.toNat (D.I g)) []) (0 + 1 + 1) default)) 0 (List.length (D.L (List.getD (List.getD (D.L i) (Int.toNat (D.I g)) []) (0 + 1 + 1 + 1) default))) (D.I f) + D.I (List.getD (List.getD (D.L i) (Int.toNat (D.I g)) []) (0 + 1 + 1) default)) ≤ (1099511627776 : Int)) ∧ (0 : Int) ≤ IntKind.wrap IntKind.i64 (D.I c - (1 : Int)) ∧ IntKind.wrap IntKind.i64 (D.I c - (1 : Int)) ≤ (1000 : Int))) (T.need (decide ((0 : Int) ≤ D.I a ∧ D.I a < (↑(Int.toNat (D.I h)) : Int))) (T.need (decide (Int.toNat (D.I a) < List.length (reachF (D.L i) (Int.toNat (IntKind.wrap IntKind.i64 (D.I c - (1 : Int)))) (beginF (D.I h) (D.I (List.getD (List.getD (D.L i) (Int.toNat (D.I g)) []) (0 + 1) default)) (IntKind.wrap IntKind.i64 (entF (D.L (List.getD (List.getD (D.L i) (Int.toNat (D.I g)) []) (0 + 1 + 1 + 1) default)) (D.I (List.getD (List.getD (D.L i) (Int.toNat (D.I g)) []) (0 + 1 + 1) default)) 0 (List.length (D.L (List.getD (List.getD (D.L i) (Int.toNat (D.I g)) []) (0 + 1 + 1 + 1) default))) (D.I f) + D.I (List.getD (List.getD (D.L i) (Int.toNat (D.I g)) []) (0 + 1 + 1) default))))))) (T.ite (D.I (List.getD (List.getD (reachF (D.L i) (Int.toNat (IntKind.wrap IntKind.i64 (D.I c - (1 : Int)))) (beginF (D.I h) (D.I (List.getD (List.getD (D.L i) (Int.toNat (D.I g)) []) (0 + 1) default)) (IntKind.wrap IntKind.i64 (entF (D.L (List.getD (List.getD (D.L i) (Int.toNat (D.I g)) []) (0 + 1 + 1 + 1) default)) (D.I (List.getD (List.getD (D.L i) (Int.toNat (D.I g)) []) (0 + 1 + 1) default)) 0 (List.length (D.L (List.getD (List.getD (D.L i) (Int.toNat (D.I g)) []) (0 + 1 + 1 + 1) default))) (D.I f) + D.I (List.getD (List.getD (D.L i) (Int.toNat (D.I g)) []) (0 + 1 + 1) default))))) (Int.toNat (D.I a)) []) 0 default) == D.I b) (T.need true (T.ite false (T.leaf (Rd.out (Ex.exit 4) [D.i (0 : Int), D.i (D.I a), D.i (D.I b), D.i (D.I c), D.i (↑(Int.toNat (D.I d)) : Int), D.i (D.I (List.getD (List.getD (D.L i) (Int.toNat (D.I g)) []) (0 + 1) default)), D.i (IntKind.wrap IntKind.i64 (entF (D.L (List.getD (List.getD (D.L i) (Int.toNat (D.I g)) []) (0 + 1 + 1 + 1) default)) (D.I (List.getD (List.getD (D.L i) (Int.toNat (D.I g)) []) (0 + 1 + 1) default)) 0 (List.length (D.L (List.getD (List.getD (D.L i) (Int.toNat (D.I g)) []) (0 + 1 + 1 + 1) default))) (D.I f) + D.I (List.getD (List.getD (D.L i) (Int.toNat (D.I g)) []) (0 + 1 + 1) default))), D.i (D.I h), D.l (D.L i), D.l (D.L j)])) (T.need (decide (Int.toNat (D.I d) ≤ List.length (D.L j) ∧ Int.toNat (D.I d) + List.length (List.take (List.length [[D.i (D.I g), D.i (entF (D.L (List.getD (List.getD (D.L i) (Int.toNat (D.I g)) []) (0 + 1 + 1 + 1) default)) (D.I (List.getD (List.getD (D.L i) (Int.toNat (D.I g)) []) (0 + 1 + 1) default)) 0 (List.length (D.L (List.getD (List.getD (D.L i) (Int.toNat (D.I g)) []) (0 + 1 + 1 + 1) default))) (D.I f))]]) [[D.i (D.I g), D.i (entF (D.L (List.getD (List.getD (D.L i) (Int.toNat (D.I g)) []) (0 + 1 + 1 + 1) default)) (D.I (List.getD (List.getD (D.L i) (Int.toNat (D.I g)) []) (0 + 1 + 1) default)) 0 (List.length (D.L (List.getD (List.getD (D.L i) (Int.toNat (D.I g)) []) (0 + 1 + 1 + 1) default))) (D.I f))]]) ≤ 2 ^ 62 ∧ (Int.toNat (D.I d) + List.length (List.take (List.length [[D.i (D.I g), D.i (entF (D.L (List.getD (List.getD (D.L i) (Int.toNat (D.I g)) []) (0 + 1 + 1 + 1) default)) (D.I (List.getD (List.getD (D.L i) (Int.toNat (D.I g)) []) (0 + 1 + 1) default)) 0 (List.length (D.L (List.getD (List.getD (D.L i) (Int.toNat (D.I g)) []) (0 + 1 + 1 + 1) default))) (D.I f))]]) [[D.i (D.I g), D.i (entF (D.L (List.getD (List.getD (D.L i) (Int.toNat (D.I g)) []) (0 + 1 + 1 + 1) default)) (D.I (List.getD (List.getD (D.L i) (Int.toNat (D.I g)) []) (0 + 1 + 1) default)) 0 (List.length (D.L (List.getD (List.getD (D.L i) (Int.toNat (D.I g)) []) (0 + 1 + 1 + 1) default))) (D.I f))]])) * Try.prog.types[40].bytes ≤ 2 ^ 47)) (T.leaf (Rd.out (Ex.exit 4) [D.i (0 : Int), D.i (D.I a), D.i (D.I b), D.i (D.I c), D.i (↑(Int.toNat (D.I d) + List.length (List.take (List.length [[D.i (D.I g), D.i (entF (D.L (List.getD (List.getD (D.L i) (Int.toNat (D.I g)) []) (0 + 1 + 1 + 1) default)) (D.I (List.getD (List.getD (D.L i) (Int.toNat (D.I g)) []) (0 + 1 + 1) default)) 0 (List.length (D.L (List.getD (List.getD (D.L i) (Int.toNat (D.I g)) []) (0 + 1 + 1 + 1) default))) (D.I f))]]) [[D.i (D.I g), D.i (entF (D.L (List.getD (List.getD (D.L i) (Int.toNat (D.I g)) []) (0 + 1 + 1 + 1) default)) (D.I (List.getD (List.getD (D.L i) (Int.toNat (D.I g)) []) (0 + 1 + 1) default)) 0 (List.length (D.L (List.getD (List.getD (D.L i) (Int.toNat (D.I g)) []) (0 + 1 + 1 + 1) default))) (D.I f))]])) : Int), D.i (D.I (List.getD (List.getD (D.L i) (Int.toNat (D.I g)) []) (0 + 1) default)), D.i (IntKind.wrap IntKind.i64 (entF (D.L (List.getD (List.getD (D.L i) (Int.toNat (D.I g)) []) (0 + 1 + 1 + 1) default)) (D.I (List.getD (List.getD (D.L i) (Int.toNat (D.I g)) []) (0 + 1 + 1) default)) 0 (List.length (D.L (List.getD (List.getD (D.L i) (Int.toNat (D.I g)) []) (0 + 1 + 1 + 1) default))) (D.I f) + D.I (List.getD (List.getD (D.L i) (Int.toNat (D.I g)) []) (0 + 1 + 1) default))), D.i (D.I h), D.l (D.L i), D.l (List.take (Int.toNat (D.I d)) (D.L j) ++ List.take (List.length [[D.i (D.I g), D.i (entF (D.L (List.getD (List.getD (D.L i) (Int.toNat (D.I g)) []) (0 + 1 + 1 + 1) default)) (D.I (List.getD (List.getD (D.L i) (Int.toNat (D.I g)) []) (0 + 1 + 1) default)) 0 (List.length (D.L (List.getD (List.getD (D.L i) (Int.toNat (D.I g)) []) (0 + 1 + 1 + 1) default))) (D.I f))]]) [[D.i (D.I g), D.i (entF (D.L (List.getD (List.getD (D.L i) (Int.toNat (D.I g)) []) (0 + 1 + 1 + 1) default)) (D.I (List.getD (List.getD (D.L i) (Int.toNat (D.I g)) []) (0 + 1 + 1) default)) 0 (List.length (D.L (List.getD (List.getD (D.L i) (Int.toNat (D.I g)) []) (0 + 1 + 1 + 1) default))) (D.I f))]])]))))) (T.leaf (Rd.again [D.i (1 : Int), D.i (D.I a), D.i (D.I b), D.i (D.I c), D.i (↑(Int.toNat (D.I d)) : Int), D.i (D.I e), D.i (D.I f), D.i (IntKind.wrap IntKind.i64 (D.I g + (1 : Int))), D.i (D.I h), D.l (D.L i), D.l (D.L j)]))))))))) (T.leaf (Rd.out (Ex.exit 4) [D.i (0 : Int), D.i (D.I a), D.i (D.I b), D.i (D.I c), D.i (↑(Int.toNat (D.I d)) : Int), D.i (D.I e), D.i (D.I f), D.i (D.I h), D.l (D.L i), D.l (D.L j)])) := by kernel_rfl
end Go.Proofs.Ytgmefblkmidglaa

namespace Go.Proofs.Ytgmefblkmidglaa
open Go.Lite
set_option maxRecDepth 100000
section
variable {n : Int} {r : List (List D)} {q : Nat → Int → Int → Bool} {l : Nat} {v t to best left : Int} {i : Nat}
theorem pick_hit (hi : i < r.length) (hv : ix (r.getD i []) 0 = v) (hq : q l (toR r i) (tmR r i t) = true) : pickB r q l v t i (r.length - i) = true ∧ pickI r q l v t i (r.length - i) = i := by
  have h : pickF r q l v t i (r.length - i) = some i := by
    rw [show r.length - i = (r.length - (i + 1)) + 1 by omega]
    unfold pickF
    simp only [roadF]
    rw [if_pos]
    rw [Bool.and_eq_true, decide_eq_true_iff]
    exact ⟨hv, hq⟩
  unfold pickB pickI
  rw [h]
  exact ⟨rfl, rfl⟩
theorem pick_miss (hi : i < r.length) (h : ix (r.getD i []) 0 = v → q l (toR r i) (tmR r i t) = false) : pickB r q l v t i (r.length - i) = pickB r q l v t (i + 1) (r.length - (i + 1)) ∧ pickI r q l v t i (r.length - i) = pickI r q l v t (i + 1) (r.length - (i + 1)) := by
  have h : pickF r q l v t i (r.length - i) = pickF r q l v t (i + 1) (r.length - (i + 1)) := by
    rw [show r.length - i = (r.length - (i + 1)) + 1 by omega]
    unfold pickF
    simp only [roadF]
    rw [if_neg]
    rw [Bool.and_eq_true, decide_eq_true_iff]
    rintro ⟨h1, h2⟩
    have h3 := h h1
    unfold toR tmR at h3
    rw [h3] at h2
    cases h2
  unfold pickB pickI
  rw [h]
  exact ⟨rfl, rfl⟩
theorem pick_some {m : Nat} (h : pickB r q l v t 0 m = true) : pickI r q l v t 0 m < m ∧ pickF r q l v t 0 m = some (pickI r q l v t 0 m) := by
  unfold pickB at h
  unfold pickI
  obtain ⟨x, hx⟩ := Option.isSome_iff_exists.1 h
  rw [hx]
  have := road_some _ _ hx
  exact ⟨by simp only [Option.getD_some]; omega, rfl⟩
theorem way_step (h : pickB r q l v t 0 r.length = true) : wayF r q (l + 1) v t = hopR r (pickI r q l v t 0 r.length) t :: wayF r q l (toR r (pickI r q l v t 0 r.length)) (tmR r (pickI r q l v t 0 r.length) t) := by
  obtain ⟨-, h2⟩ := pick_some h
  unfold pickF at h2
  simp only [wayF]
  rw [h2]
  rfl
theorem way_none (h : pickB r q l v t 0 r.length = false) : wayF r q (l + 1) v t = wayF r q l v t := by
  unfold pickB pickF at h
  simp only [wayF]
  split
  · rfl
  · rename_i i hi
    rw [hi] at h
    cases h
theorem okWay_next (h : okWay n (left + 1) v t to r) (hl : 0 ≤ left) (hi : i < r.length) : okWay n left (toR r i) (tmR r i t) to r := by
  obtain ⟨hN, h1, h2, h3, h4⟩ := h
  have hR := (net_parts hN).2.2 i hi
  have e1 := (road_parts hR).2.1
  have e2 := (road_parts hR).2.2.1
  have e3 := (entW_parts hR).1 t
  have e4 := (entW_parts hR).2.1 t
  refine ⟨hN, by omega, e1, ?_, h4⟩
  unfold tmR
  omega
theorem okWay_less (h : okWay n (left + 1) v t to r) (hl : 0 ≤ left) : okWay n left v t to r := by
  obtain ⟨hN, h1, h2, h3, h4⟩ := h
  exact ⟨hN, by omega, h2, by omega, h4⟩
end
section
variable {p : Nat → Bool} {k : Nat}
theorem seek_go (h : ∃ l, k ≤ l ∧ l ≤ 1000 ∧ p l = true) : (p k = true → seekF p (1000 - k) k = k) ∧ (p k = false → k < 1000 ∧ (∃ l, k + 1 ≤ l ∧ l ≤ 1000 ∧ p l = true) ∧ seekF p (1000 - k) k = seekF p (1000 - (k + 1)) (k + 1)) := by
  obtain ⟨l, h1, h2, h3⟩ := h
  refine ⟨fun hp => ?_, fun hp => ?_⟩
  · match hm : 1000 - k with
    | 0 => rfl
    | m + 1 => simp only [seekF, hp, if_true]
  · have : l ≠ k := fun e => by rw [e, hp] at h3; cases h3
    refine ⟨by omega, ⟨l, by omega, h2, h3⟩, ?_⟩
    rw [show 1000 - k = (1000 - (k + 1)) + 1 by omega]
    simp only [seekF, hp, Bool.false_eq_true, if_false]
end
theorem tm_wrap {n : Int} {r : List (List D)} {i : Nat} {t : Int} (hN : netB n r = true) (hi : i < r.length) (ht : 0 ≤ t ∧ t ≤ 10100000) :
    IntKind.i64.wrap (entF (lx (r.getD i []) 3) (ix (r.getD i []) 2) 0 (lx (r.getD i []) 3).length t + ix (r.getD i []) 2) = tmR r i t ∧ t < tmR r i t ∧ tmR r i t ≤ 10120000 := by
  have hR := (net_parts hN).2.2 i hi
  have e2 := (road_parts hR).2.2.1
  have e3 := (entW_parts hR).1 t
  have e4 := (entW_parts hR).2.1 t
  unfold tmR
  unfold entW at e3 e4 ⊢
  exact ⟨wrap_id (by omega) (by omega), by omega, by omega⟩
theorem ok23_8 (n : Nat) : LoopSim C (n + 6) 23 (loopOf C.P 23 8) (mkL l23_8 G23_8) := by
  refine loop_ofK hC (sp := sp23) (lp := lp23) (sw := sw23) ⟨ok18 (n + 4), ok45 (n + 5), ok46 n, ok50 (n + 4), ok51 (n + 5), trivial⟩ trivial 0 [] (by kernel_rfl) rfl (fun k hk => by cases hk) (by kernel_rfl) (fun ds => (1000 - (ds.getD 2 default).I).toNat) fun ds rr h => ?_
  unfold G23_8 at h
  split at h
  · rename_i to best left m r v t
    obtain ⟨hp, h⟩ := need_some h
    rw [yes_iff] at hp
    obtain ⟨hN, hl, hv, ht, hto, hc⟩ := hp
    refine ⟨by rw [fuelC]; simp; omega, ?_⟩
    rw [show roundTK C (mkTab sp23 lp23 sw23) 23 (loopOf C.P 23 8) 0 l23_8 [to, best, left, m, r, v, t] = _ from t23_8 to best left m r v t]
    obtain ⟨k, hk⟩ : ∃ k : Nat, left.I = k := ⟨left.I.toNat, by omega⟩
    simp only [hk, Int.toNat_natCast] at h hc hl ⊢
    obtain ⟨g1, g2⟩ := seek_go (p := fun l => qE m.I r.L to.I best.I l v.I t.I) hc
    unfold hopsE at h
    refine rd_yes ⟨hN, hv, by omega, hto, by omega, by omega⟩ (rd_ite (fun c => ?_) fun c => ?_)
    · obtain ⟨a1, a2, a3⟩ := g2 (by rw [bne_iff_ne] at c; unfold qE; exact beq_false_of_ne c)
      rw [a3] at h
      rw [wrap_succ (by omega)]
      refine rd_again ((need_yes ⟨hN, by simp only [I_i]; omega, hv, ht, hto, by simp only [I_i, Int.toNat_natCast]; exact a2⟩).trans ?_) (show (1000 - ((k + 1 : Nat) : Int)).toNat < (1000 - left.I).toNat by omega)
      simp only [I_i, L_l, Int.toNat_natCast]
      unfold hopsE
      exact h
    · have a1 := g1 (by unfold qE; simpa using c)
      rw [a1] at h
      exact rd_out h
  · cases h
theorem ok23_14 (n : Nat) : LoopSim C (n + 6) 23 (loopOf C.P 23 14) (mkL l23_14 G23_14) := by
  refine loop_ofK hC (sp := sp23) (lp := lp23) (sw := sw23) ⟨ok18 (n + 4), ok45 (n + 5), ok46 n, ok50 (n + 4), ok51 (n + 5), trivial⟩ trivial 0 [] (by kernel_rfl) rfl (fun k hk => by cases hk) (by kernel_rfl) (fun ds => if (ds.getD 0 default).I = 0 then ((ds.getD 5 default).I - (ds.getD 6 default).I).toNat else ((ds.getD 6 default).I - (ds.getD 7 default).I).toNat) fun ds rr h => ?_
  unfold G23_14 at h
  split at h
  · rename_i j to best left r' q i m r v t
    obtain ⟨hp, h⟩ := need_some h
    rw [yes_iff] at hp
    obtain ⟨hj, hW, hl0, hr, hq, hi0, hi1⟩ := hp
    have hW' := hW
    obtain ⟨hN, hl, hv, ht, hto⟩ := hW'
    obtain ⟨p1, p2, p3⟩ := net_parts hN
    refine ⟨by rw [fuelC]; simp [hj]; omega, ?_⟩
    rw [roundTK_head (j := j) (n := 0) hj (by decide), show roundTK C (mkTab sp23 lp23 sw23) 23 (loopOf C.P 23 14) 0 l23_14 [.i 0, to, best, left, r', q, i, m, r, v, t] = _ from t23_14_0 to best left r' q i m r v t]
    obtain ⟨k, hk⟩ : ∃ k : Nat, i.I = k := ⟨i.I.toNat, by omega⟩
    simp only [hk, hr, hq, Int.toNat_natCast, Nat.reduceAdd, ix_def, lx_def] at h hi1 ⊢
    refine rd_if (fun hlt => ?_) fun hge => ?_
    · have hkl : k < r.L.length := by omega
      have hR := p3 k hkl
      obtain ⟨q1, q2, q3, q4, q5⟩ := road_parts hR
      obtain ⟨o1, o2⟩ := road_okC hR
      obtain ⟨w1, w2, w3⟩ := tm_wrap hN hkl (t := t.I) (by omega)
      have hmiss : (ix (r.L.getD k []) 0 = v.I → qE m.I r.L to.I best.I left.I.toNat (toR r.L k) (tmR r.L k t.I) = false) → RdOK G23_14 (fun ds => if (ds.getD 0 default).I = 0 then ((ds.getD 5 default).I - (ds.getD 6 default).I).toNat else ((ds.getD 6 default).I - (ds.getD 7 default).I).toNat) [j, to, best, left, r', q, i, m, r, v, t] rr (T.leaf (Rd.again [.i 0, .i to.I, .i best.I, .i left.I, .l r.L, .i r.L.length, .i ((k + 1 : Nat) : Int), .i m.I, .l r.L, .i v.I, .i t.I])).run := fun hm => by
        obtain ⟨m1, m2⟩ := pick_miss (q := qE m.I r.L to.I best.I) (l := left.I.toNat) (v := v.I) (t := t.I) hkl hm
        rw [m1, m2] at h
        refine rd_again ((need_yes ⟨rfl, hW, hl0, rfl, rfl, by simp only [I_i]; omega, by simp only [I_i, L_l]; omega⟩).trans h) ?_
        simp only [List.getD_cons_zero, List.getD_cons_succ, I_i, hj, hq, hk, if_true]
        omega
      rw [wrap_succ (by omega), w1]
      refine rd_dec (by omega) (rd_ite (fun c1 => hmiss fun e => absurd e (by simpa using c1)) fun c1 => ?_)
      have c1 : ix (r.L.getD k []) 0 = v.I := by simpa using c1
      refine rd_yes ⟨o1, by unfold okS; omega, o2⟩ (rd_yes ⟨hN, q2, by omega, hto, by omega, by omega⟩ (rd_ite (fun c2 => ?_) fun c2 => hmiss fun _ => c2))
      obtain ⟨m1, m2⟩ := pick_hit (q := qE m.I r.L to.I best.I) (l := left.I.toNat) (v := v.I) (t := t.I) hkl c1 c2
      rw [m1, m2] at h
      exact rd_need rfl (rd_false rfl (rd_need rfl (rd_out h)))
    · rw [show r.L.length - k = 0 by omega] at h
      exact rd_out h
  · rename_i j to best left z r' q i m r v t o
    obtain ⟨hp, h⟩ := need_some h
    rw [yes_iff] at hp
    obtain ⟨hj, hW, hl0, hr, hq, hi, hz, hz1⟩ := hp
    have hby : Try.prog.types[40].bytes = 16 := by kernel_rfl
    have hW' := hW
    obtain ⟨hN, hl, hv, ht, hto⟩ := hW'
    obtain ⟨p1, p2, p3⟩ := net_parts hN
    refine ⟨by rw [fuelC]; simp [hj]; omega, ?_⟩
    rw [roundTK_head (j := j) (n := 1) hj (by decide), show roundTK C (mkTab sp23 lp23 sw23) 23 (loopOf C.P 23 14) 0 l23_14 [.i 1, to, best, left, z, r', q, i, m, r, v, t, o] = _ from t23_14_1 to best left z r' q i m r v t o]
    obtain ⟨k, hk⟩ : ∃ k : Nat, i.I = k := ⟨i.I.toNat, by omega⟩
    simp only [hk, hr, hq, hz, Int.toNat_natCast, Nat.reduceAdd, ix_def, lx_def] at h hi ⊢
    refine rd_if (fun hlt => ?_) fun hge => ?_
    · have hkl : k < r.L.length := by omega
      have hR := p3 k hkl
      obtain ⟨q1, q2, q3, q4, q5⟩ := road_parts hR
      obtain ⟨o1, o2⟩ := road_okC hR
      obtain ⟨w1, w2, w3⟩ := tm_wrap hN hkl (t := t.I) (by omega)
      have hmiss : (ix (r.L.getD k []) 0 = v.I → qE m.I r.L to.I best.I left.I.toNat (toR r.L k) (tmR r.L k t.I) = false) → RdOK G23_14 (fun ds => if (ds.getD 0 default).I = 0 then ((ds.getD 5 default).I - (ds.getD 6 default).I).toNat else ((ds.getD 6 default).I - (ds.getD 7 default).I).toNat) [j, to, best, left, z, r', q, i, m, r, v, t, o] rr (T.leaf (Rd.again [.i 1, .i to.I, .i best.I, .i left.I, .i o.L.length, .l r.L, .i r.L.length, .i ((k + 1 : Nat) : Int), .i m.I, .l r.L, .i v.I, .i t.I, .l o.L])).run := fun hm => by
        obtain ⟨m1, m2⟩ := pick_miss (q := qE m.I r.L to.I best.I) (l := left.I.toNat) (v := v.I) (t := t.I) hkl hm
        rw [m1, m2] at h
        refine rd_again ((need_yes ⟨rfl, hW, hl0, rfl, rfl, by simp only [I_i, L_l]; omega, rfl, by simp only [I_i]; omega⟩).trans h) ?_
        simp only [List.getD_cons_zero, List.getD_cons_succ, I_i, hj, hq, hk]
        rw [if_neg (by omega), if_neg (by omega)]
        omega
      rw [wrap_succ (by omega), w1]
      refine rd_dec (by omega) (rd_ite (fun c1 => hmiss fun e => absurd e (by simpa using c1)) fun c1 => ?_)
      have c1 : ix (r.L.getD k []) 0 = v.I := by simpa using c1
      refine rd_yes ⟨o1, by unfold okS; omega, o2⟩ (rd_yes ⟨hN, q2, by omega, hto, by omega, by omega⟩ (rd_ite (fun c2 => ?_) fun c2 => hmiss fun _ => c2))
      obtain ⟨m1, m2⟩ := pick_hit (q := qE m.I r.L to.I best.I) (l := left.I.toNat) (v := v.I) (t := t.I) hkl c1 c2
      rw [m1, m2] at h
      simp only [List.take_length]
      simp only [List.length_cons, List.length_nil, Nat.zero_add]
      exact rd_need rfl (rd_false rfl (rd_dec (by rw [hby]; omega) (rd_out h)))
    · rw [show r.L.length - k = 0 by omega] at h
      exact rd_out h
  · cases h
theorem ok23_11 (n : Nat) : LoopSim C (n + 6) 23 (loopOf C.P 23 11) (mkL l23_11 G23_11) := by
  refine loop_ofK hC (sp := sp23) (lp := lp23) (sw := sw23) ⟨ok18 (n + 4), ok45 (n + 5), ok46 n, ok50 (n + 4), ok51 (n + 5), trivial⟩ trivial 0 [14] (by kernel_rfl) (by kernel_rfl) (fun k hk L hL => by simp at hk; subst hk; cases hL; exact ok23_14 n) (by kernel_rfl) (fun ds => (ds.getD 3 default).I.toNat) fun ds rr h => ?_
  unfold G23_11 wayE at h
  split at h
  · rename_i j to best left m r v t
    obtain ⟨hp, h⟩ := need_some h
    rw [yes_iff] at hp
    obtain ⟨hj, hW⟩ := hp
    have hl := hW.2.1
    refine ⟨by rw [fuelC]; simp; omega, ?_⟩
    rw [roundTK_head (j := j) (n := 0) hj (by decide), show roundTK C (mkTab sp23 lp23 sw23) 23 (loopOf C.P 23 11) 0 l23_11 [.i 0, to, best, left, m, r, v, t] = _ from t23_11_0 to best left m r v t]
    refine rd_if (fun hlt => ?_) fun hge => ?_
    · obtain ⟨k, hk⟩ : ∃ k : Nat, left.I = ((k + 1 : Nat) : Int) := ⟨left.I.toNat - 1, by omega⟩
      have hw : IntKind.i64.wrap (left.I - 1) = (k : Int) := by rw [hk, wrap_pred (by omega)]; omega
      have hW1 : okWay m.I ((k : Int) + 1) v.I t.I to.I r.L := by rw [hk] at hW; exact hW
      rw [hw]
      rw [hk] at h
      simp only [Int.toNat_natCast, Int.toNat_zero, Nat.sub_zero] at h ⊢
      refine rd_yes ⟨trivial, hW1, by omega, trivial, trivial, by omega, by omega⟩ (rd_ite (fun c => ?_) fun c => ?_)
      · rw [way_step c] at h
        refine rd_again ((need_yes ⟨rfl, okWay_next hW1 (show (0 : Int) ≤ (k : Int) by omega) (pick_some c).1, rfl, by simp only [I_i]; omega, by simp only [I_i]; omega⟩).trans h) (show ((k : Nat) : Int).toNat < left.I.toNat by omega)
      · rw [way_none c] at h
        exact rd_again ((need_yes ⟨rfl, okWay_less hW1 (show (0 : Int) ≤ (k : Int) by omega)⟩).trans h) (show ((k : Nat) : Int).toNat < left.I.toNat by omega)
    · rw [show left.I.toNat = 0 by omega] at h
      exact rd_out h
  · rename_i j to best left z m r v t o
    obtain ⟨hp, h⟩ := need_some h
    rw [yes_iff] at hp
    obtain ⟨hj, hW, hz, hz1, hz2⟩ := hp
    have hl := hW.2.1
    refine ⟨by rw [fuelC]; simp; omega, ?_⟩
    rw [roundTK_head (j := j) (n := 1) hj (by decide), show roundTK C (mkTab sp23 lp23 sw23) 23 (loopOf C.P 23 11) 0 l23_11 [.i 1, to, best, left, z, m, r, v, t, o] = _ from t23_11_1 to best left z m r v t o]
    refine rd_if (fun hlt => ?_) fun hge => ?_
    · obtain ⟨k, hk⟩ : ∃ k : Nat, left.I = ((k + 1 : Nat) : Int) := ⟨left.I.toNat - 1, by omega⟩
      have hw : IntKind.i64.wrap (left.I - 1) = (k : Int) := by rw [hk, wrap_pred (by omega)]; omega
      have hW1 : okWay m.I ((k : Int) + 1) v.I t.I to.I r.L := by rw [hk] at hW; exact hW
      rw [hw]
      rw [hk] at h
      simp only [hz, Int.toNat_natCast, Int.toNat_zero, Nat.sub_zero] at h ⊢
      refine rd_yes ⟨rfl, hW1, by omega, trivial, trivial, ⟨by omega, by omega⟩, trivial, by omega⟩ (rd_ite (fun c => ?_) fun c => ?_)
      · rw [way_step c] at h
        refine rd_again ((need_yes ⟨rfl, okWay_next hW1 (show (0 : Int) ≤ (k : Int) by omega) (pick_some c).1, by simp only [I_i, L_l, List.length_append, List.length_cons, List.length_nil], by simp only [I_i]; omega, by simp only [I_i]; omega⟩).trans ?_) (show ((k : Nat) : Int).toNat < left.I.toNat by omega)
        simp only [I_i, L_l, Int.toNat_natCast, List.append_assoc, List.cons_append, List.nil_append]
        exact h
      · rw [way_none c] at h
        exact rd_again ((need_yes ⟨rfl, okWay_less hW1 (show (0 : Int) ≤ (k : Int) by omega), rfl, by simp only [I_i]; omega, by simp only [I_i]; omega⟩).trans h) (show ((k : Nat) : Int).toNat < left.I.toNat by omega)
    · rw [show left.I.toNat = 0 by omega] at h
      simp only [wayF, List.append_nil] at h
      rw [hz]
      exact rd_out h
  · cases h
theorem node0_iff {n v : Int} : nodeB n v 0 = true ↔ 0 ≤ v ∧ v < n := by
  unfold nodeB
  rw [decide_eq_true_iff]
  omega
theorem ok23 (n : Nat) : FnOK C (n + 7) 23 (mkF s23 G23) := by
  refine fn_ofS hC (sp := sp23) (lp := lp23) (sw := sw23) ⟨ok18 (n + 4), ok45 (n + 5), ok46 n, ok50 (n + 4), ok51 (n + 5), trivial⟩ trivial (by kernel_rfl) [8, 11] (by kernel_rfl) (by kernel_rfl) (fun k hk L hL => by
    simp at hk; rcases hk with rfl | rfl <;> cases hL
    · exact ok23_8 n
    · exact ok23_11 n) fun ds r h => ?_
  unfold G23 at h
  split at h
  · rename_i m r' v t to
    refine (congrArg T.run (t23 m r' v t to)).trans ?_
    rw [← h]
    cases hN : netB m.I r'.L with
    | false => exact go_true rfl rfl
    | true =>
      obtain ⟨p1, p2, p3⟩ := net_parts hN
      rw [Bool.true_and, wrap_id (by omega) (by omega)]
      refine go_false rfl ?_
      simp only [within_dec]
      have hO : ∀ b : Bool, (nodeB m.I v.I t.I && nodeB m.I to.I 0) = b → (nodeB m.I v.I t.I && nodeB m.I to.I 0) = b := fun _ e => e
      refine go_not (fun c1 => ?_) fun c1 => go_not (fun c2 => ?_) fun c2 => go_not (fun c3 => ?_) fun c3 => ?_
      · have c1 := of_decide_eq_false c1
        rw [show nodeB m.I v.I t.I = false from decide_eq_false (by omega)]
        rfl
      · have c2 := of_decide_eq_false c2
        rw [show nodeB m.I to.I 0 = false from decide_eq_false (by omega), Bool.and_false]
        rfl
      · have c3 := of_decide_eq_false c3
        rw [show nodeB m.I v.I t.I = false from decide_eq_false (by omega)]
        rfl
      · have c1 := of_decide_eq_true c1
        have c2 := of_decide_eq_true c2
        have c3 := of_decide_eq_true c3
        rw [show nodeB m.I v.I t.I = true from node_iff.2 (by omega), show nodeB m.I to.I 0 = true from node0_iff.2 (by omega)]
        have hh := (search_ends hN (v := v.I) (t := t.I) (by omega) (by omega) (by omega)).1
        obtain ⟨⟨a1, -⟩, -⟩ := arr_ok hN (v := v.I) (t := t.I) (by omega) (by omega)
        simp only [Int.toNat_zero, Int.toNat_natCast, rg_def]
        refine go_yes ⟨by omega, by omega, by omega, by omega, hh⟩ (go_dec (by omega) (go_dec (by omega) ?_))
        show T.run _ = (T.ite (decide (bestF m.I r'.L v.I t.I to.I < 0)) _ _).run
        refine go_if (fun c4 => ?_) fun c4 => ?_
        · have c4 : bestF m.I r'.L v.I t.I to.I < 0 := c4
          rw [decide_eq_true c4]
          rfl
        · have c4 : ¬ bestF m.I r'.L v.I t.I to.I < 0 := c4
          rw [decide_eq_false c4]
          obtain ⟨b1, b2, b3, b4, b5⟩ := ways_same hN (v := v.I) (t := t.I) (to := to.I) (by omega) (by omega) (by omega) (by omega)
          refine go_yes ⟨trivial, by omega, by omega, by omega, by omega, b2⟩ (go_yes ⟨trivial, hN, ⟨by omega, by exact_mod_cast b5⟩, by omega, ⟨by omega, ?_⟩, by omega⟩ rfl)
          have : (hopsE m.I r'.L v.I t.I to.I (rg (arrF m.I r'.L v.I t.I) to.I.toNat) 0 : Int) ≤ 1000 := by exact_mod_cast b5
          omega
  · cases h
end Go.Proofs.Ytgmefblkmidglaa
