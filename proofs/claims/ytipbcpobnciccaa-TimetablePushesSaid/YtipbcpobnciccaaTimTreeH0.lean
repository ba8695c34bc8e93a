/-
  What the rounds and the functions come to. Written by program.
-/
import Derived.Test.YtipbcpobnciccaaTimTabH
namespace Go.Proofs.Ytipbcpobnciccaa
open Go.Lite
set_option linter.unusedVariables false
set_option maxRecDepth 100000
theorem t67 (a : D) : fnT C tab67 67 s67 [a] =
  T.need (!List.isEmpty (D.L a)) (T.ite (List.isEmpty (D.L a)) (T.leaf [D.i (1 : Int)]) (T.need (decide (List.length (D.L a) ≤ 2 ^ 40 ∧ List.length (D.L a) * Try.prog.types[3].bytes ≤ 2 ^ 46)) (T.leaf [D.i (0 : Int), D.i (↑(List.length (D.L a)) : Int), D.l (D.L a)]))) := by kernel_rfl
end Go.Proofs.Ytipbcpobnciccaa
