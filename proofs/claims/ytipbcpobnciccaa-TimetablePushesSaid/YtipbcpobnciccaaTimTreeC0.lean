/-
  What the rounds and the functions come to. Written by program.
-/
import Derived.Test.YtipbcpobnciccaaTimTabA
namespace Go.Proofs.Ytipbcpobnciccaa
open Go.Lite
set_option linter.unusedVariables false
set_option maxRecDepth 100000
theorem t75 (a : D) : fnT C tab75 75 s75 [a] =
  T.need (!List.isEmpty (D.L a)) (T.ite (List.isEmpty (D.L a)) (T.leaf [D.i (1 : Int)]) (T.need (decide (List.length (D.L a) ≤ 2 ^ 40 ∧ List.length (D.L a) * Try.prog.types[58].bytes ≤ 2 ^ 46)) (T.leaf [D.i (0 : Int), D.i (↑(List.length (D.L a)) : Int), D.l (D.L a)]))) := by kernel_rfl
end Go.Proofs.Ytipbcpobnciccaa
