/-
  Shapes of arguments, results and loops. Written by program.
-/
import Derived.Test.YtlofnkkokcihnaaCarTabF
namespace Go.Proofs.Ytlofnkkokcihnaa
open Go.Lite
def s5 : Sig := ⟨[.k (.int .i64), .k (.int .i64), .k (.int .i64), .k (.ro [.int .i64, .int .i64, .int .i64])], [(.k .bool, [])]⟩
end Go.Proofs.Ytlofnkkokcihnaa
