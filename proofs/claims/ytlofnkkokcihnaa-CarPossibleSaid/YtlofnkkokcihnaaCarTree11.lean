/-
  What the rounds and the functions come to. Written by program.
-/
import Derived.Test.YtlofnkkokcihnaaCarTab11
namespace Go.Proofs.Ytlofnkkokcihnaa
open Go.Lite
set_option linter.unusedVariables false
set_option maxRecDepth 100000
theorem t11 (a b c d e f : D) : fnT C tab11 11 s11 [a, b, c, d, e, f] =
  T.ite (!fewOk (D.L a) (D.L b)) (T.leaf [D.b true]) (T.ite (decide ((↑(List.length (D.L d)) : Int) > (20 : Int))) (T.leaf [D.b true]) (T.ite (decide ((↑(List.length (D.L e)) : Int) > (20 : Int))) (T.leaf [D.b true]) (T.need (yes (smallCs (D.L a))) (T.need (yes (smallCs (D.L a) ∧ ∀ (j : Nat), j < List.length (D.L b) → List.length (rowAt (D.L b) j) < lim)) (T.ite (!taskOk (D.L a) (D.L b) (D.I c)) (T.ite (!(possC (D.L a) (D.L b) (D.L d) (D.L e) (D.I c)).snd) (T.ite ((possC (D.L a) (D.L b) (D.L d) (D.L e) (D.I c)).fst == (0 : Int)) (T.leaf [D.b true]) (T.leaf [D.b false])) (T.leaf [D.b false])) (T.need (yes (taskOk (D.L a) (D.L b) (D.I c) = true)) (T.ite ((possC (D.L a) (D.L b) (D.L d) (D.L e) (D.I c)).snd == (possR (D.L a) (D.L b) (D.L d) (D.L e) (D.I c)).snd) (T.ite ((possC (D.L a) (D.L b) (D.L d) (D.L e) (D.I c)).fst == (possR (D.L a) (D.L b) (D.L d) (D.L e) (D.I c)).fst) (T.leaf [D.b true]) (T.leaf [D.b false])) (T.leaf [D.b false])))))))) := by kernel_rfl
end Go.Proofs.Ytlofnkkokcihnaa
