/-
  What the rounds and the functions come to. Written by program.
-/
import Derived.Test.YtipbcpobnciccaaTimTabA
namespace Go.Proofs.Ytipbcpobnciccaa
open Go.Lite
set_option linter.unusedVariables false
set_option maxRecDepth 100000
theorem t48 (a b c : D) : fnT C tab48 48 s48 [a, b, c] =
  T.ite (decide (D.I a ≥ D.I b)) (T.leaf [D.b (decide (D.I a ≤ D.I c))]) (T.leaf [D.b false]) := by kernel_rfl
theorem t54 (a b c : D) : fnT C tab54 54 s54 [a, b, c] =
  T.ite (decide (D.I a ≥ D.I b)) (T.leaf [D.b (decide (D.I a ≤ D.I c))]) (T.leaf [D.b false]) := by kernel_rfl
theorem t74 (a b c d : D) : fnT C tab74 74 s74 [a, b, c, d] =
  T.ite (!within (D.I a) (0 : Int) (IntKind.wrap IntKind.i64 (D.I d - (1 : Int)))) (T.leaf [D.b true]) (T.ite (!within (D.I b) (0 : Int) (IntKind.wrap IntKind.i64 (D.I d - (1 : Int)))) (T.leaf [D.b true]) (T.leaf [D.b !within (D.I c) (-1000000 : Int) (1000000 : Int)])) := by kernel_rfl
theorem t51 (a b : D) : fnT C tab51 51 s51 [a, b] =
  T.need (yes ((1 : Int) ≤ D.I b ∧ D.I b ≤ (500 : Int) ∧ List.length (D.L a) < big ∧ (↑(List.length (D.L a)) : Int) = (↑(List.length (D.L a)) : Int) ∧ (0 : Int) ≤ (0 : Int) ∧ (0 : Int) ≤ (↑(List.length (D.L a)) : Int))) (T.ite (decide (firstFrom (fun j => !linkOk (D.I b) (D.L a) j) (Int.toNat (0 : Int)) (List.length (D.L a) - Int.toNat (0 : Int)) ≥ (0 : Int))) (T.leaf [D.i (firstFrom (fun j => !linkOk (D.I b) (D.L a) j) (Int.toNat (0 : Int)) (List.length (D.L a) - Int.toNat (0 : Int)))]) (T.leaf [D.i (-1 : Int)])) := by kernel_rfl
theorem t51_2 (a b c d : D) : roundT C tab51 51 (loopOf C.P 51 2) l51_2 [a, b, c, d] =
  T.ite (decide (D.I d < D.I c)) (T.need (decide ((0 : Int) ≤ D.I d ∧ D.I d < (↑(List.length (D.L a)) : Int))) (T.need (yes ((1 : Int) ≤ D.I b ∧ D.I b ≤ (500 : Int))) (T.ite (!linkP (D.I b) (D.I (List.getD (List.getD (D.L a) (Int.toNat (D.I d)) []) 0 default)) (D.I (List.getD (List.getD (D.L a) (Int.toNat (D.I d)) []) (0 + 1) default)) (D.I (List.getD (List.getD (D.L a) (Int.toNat (D.I d)) []) (0 + 1 + 1) default))) (T.leaf (Rd.out Ex.ret [D.i (D.I d)])) (T.leaf (Rd.again [D.l (D.L a), D.i (D.I b), D.i (D.I c), D.i (IntKind.wrap IntKind.i64 (D.I d + (1 : Int)))]))))) (T.leaf (Rd.out (Ex.exit 0) [])) := by kernel_rfl
theorem t63 (a b : D) : fnT C tab63 63 s63 [a, b] =
  T.need (yes ((1 : Int) ≤ D.I b ∧ D.I b ≤ (500 : Int) ∧ List.length (D.L a) < big)) (T.leaf [D.b (decide (firstFrom (fun j => !linkOk (D.I b) (D.L a) j) 0 (List.length (D.L a)) ≥ (0 : Int)))]) := by kernel_rfl
theorem t47 (a b : D) : fnT C tab47 47 s47 [a, b] =
  T.ite (within (D.I a) (1 : Int) (500 : Int)) (T.ite (decide ((↑(List.length (D.L b)) : Int) ≤ (5000 : Int))) (T.need (yes ((1 : Int) ≤ D.I a ∧ D.I a ≤ (500 : Int) ∧ List.length (D.L b) < big)) (T.leaf [D.b !!allFrom (linkOk (D.I a) (D.L b)) 0 (List.length (D.L b))])) (T.leaf [D.b false])) (T.leaf [D.b false]) := by kernel_rfl
theorem t18 (a b : D) : fnT C tab18 18 s18 [a, b] =
  T.ite (!within (D.I a) (1 : Int) (500 : Int)) (T.leaf [D.b false]) (T.ite (decide ((↑(List.length (D.L b)) : Int) > (5000 : Int))) (T.leaf [D.b false]) (T.need (yes ((1 : Int) ≤ D.I a ∧ D.I a ≤ (500 : Int) ∧ List.length (D.L b) < big ∧ (0 : Int) ≤ (0 : Int) ∧ (0 : Int) ≤ (↑(List.length (D.L b)) : Int))) (T.ite (allFrom (linkOk (D.I a) (D.L b)) (Int.toNat (0 : Int)) (List.length (D.L b) - Int.toNat (0 : Int))) (T.leaf [D.b true]) (T.leaf [D.b false])))) := by kernel_rfl
theorem t18_4 (a b c : D) : roundT C tab18 18 (loopOf C.P 18 4) l18_4 [a, b, c] =
  T.ite (decide (D.I c < (↑(List.length (D.L b)) : Int))) (T.need (decide ((0 : Int) ≤ D.I c ∧ D.I c < (↑(List.length (D.L b)) : Int))) (T.ite (!within (D.I (List.getD (List.getD (D.L b) (Int.toNat (D.I c)) []) 0 default)) (0 : Int) (IntKind.wrap IntKind.i64 (D.I a - (1 : Int)))) (T.leaf (Rd.out Ex.ret [D.b false])) (T.ite (!within (D.I (List.getD (List.getD (D.L b) (Int.toNat (D.I c)) []) (0 + 1) default)) (0 : Int) (IntKind.wrap IntKind.i64 (D.I a - (1 : Int)))) (T.leaf (Rd.out Ex.ret [D.b false])) (T.ite (!within (D.I (List.getD (List.getD (D.L b) (Int.toNat (D.I c)) []) (0 + 1 + 1) default)) (-1000000 : Int) (1000000 : Int)) (T.leaf (Rd.out Ex.ret [D.b false])) (T.leaf (Rd.again [D.i (D.I a), D.l (D.L b), D.i (IntKind.wrap IntKind.i64 (D.I c + (1 : Int)))])))))) (T.leaf (Rd.out (Ex.exit 0) [])) := by kernel_rfl
end Go.Proofs.Ytipbcpobnciccaa
