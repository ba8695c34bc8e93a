/-
  What the rounds and the functions come to. Written by program.
-/
import Derived.Test.YtlofnkkokcihnaaCarTab7
namespace Go.Proofs.Ytlofnkkokcihnaa
open Go.Lite
set_option linter.unusedVariables false
set_option maxRecDepth 100000
theorem t7 (a b c d e : D) : fnT C tab7 7 s7 [a, b, c, d, e] =
  T.ite (decide ((↑(List.length (D.L d)) : Int) > (60 : Int))) (T.leaf [D.b true]) (T.ite (decide ((↑(List.length (D.L e)) : Int) > (60 : Int))) (T.leaf [D.b true]) (T.need (yes (List.length (D.L d) < big ∧ List.length (D.L e) < big)) (T.ite (!tankOk (D.I a) (D.I b) (D.I c) (D.L d)) (T.ite (!(tankOk (D.I a) (D.I b) (D.I c) (D.L d) && decide (List.length (D.L e) = List.length (D.L d)) && allFrom (amOk (D.L d) (D.L e)) 0 (List.length (D.L e)) && safeFrom (D.I a) (D.I b) (D.L d) (D.L e) 0 (List.length (D.L d)) (D.I c) (D.I c))) (T.leaf [D.b true]) (T.leaf [D.b false])) (T.need (yes ((0 : Int) ≤ D.I b ∧ D.I a ≤ (1000000 : Int) ∧ List.length (D.L d) ≤ 50 ∧ allFrom (legAt (D.L d)) 0 (List.length (D.L d)) = true ∧ bounds (D.I a) (D.I c) (D.I c))) (T.ite ((tankOk (D.I a) (D.I b) (D.I c) (D.L d) && decide (List.length (D.L e) = List.length (D.L d)) && allFrom (amOk (D.L d) (D.L e)) 0 (List.length (D.L e)) && safeFrom (D.I a) (D.I b) (D.L d) (D.L e) 0 (List.length (D.L d)) (D.I c) (D.I c)) == (decide (List.length (D.L e) = List.length (D.L d)) && refSafeFrom (D.I a) (D.I b) (D.L d) (D.L e) 0 (List.length (D.L d)) (D.I c) (D.I c))) (T.leaf [D.b true]) (T.leaf [D.b false])))))) := by kernel_rfl
end Go.Proofs.Ytlofnkkokcihnaa
