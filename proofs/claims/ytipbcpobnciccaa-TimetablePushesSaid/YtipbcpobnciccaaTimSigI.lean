/-
  Shapes of arguments, results and loops. Written by program.
-/
import Derived.Test.YtipbcpobnciccaaTimSigH
namespace Go.Proofs.Ytipbcpobnciccaa
open Go.Lite
def s10 : Sig := ⟨[.k (.int .i64), .k (.ro [.int .i64, .int .i64, .int .i64]), .k (.ro [.int .i64])], [(.k .bool, [])]⟩
end Go.Proofs.Ytipbcpobnciccaa
