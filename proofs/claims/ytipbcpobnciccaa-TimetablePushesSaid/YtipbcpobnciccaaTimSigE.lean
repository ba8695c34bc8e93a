/-
  Shapes of arguments, results and loops. Written by program.
-/
import Derived.Test.YtipbcpobnciccaaTimSigD
namespace Go.Proofs.Ytipbcpobnciccaa
open Go.Lite
def s6 : Sig := ⟨[.k (.int .i64), .k (.ro [.int .i64, .int .i64, .int .i64])], [(.k .bool, [])]⟩
def s7 : Sig := ⟨[.k (.int .i64), .k (.ro [.int .i64, .int .i64, .int .i64]), .k (.ro [.int .i64]), .k (.ro [.int .i64])], [(.k .bool, [])]⟩
def l7_8 : LSig := mkLS [0, 1, 2, 3, 9, 10, 11] [(77, [(0, .k (.int .i64)), (1, .k (.ro [.int .i64, .int .i64, .int .i64])), (2, .k (.ro [.int .i64])), (3, .k (.ro [.int .i64])), (9, .k .bool), (10, .k .bool), (11, .k (.int .i64))], [])] [(.ret, [8], [(77, [(8, .k .bool)], [])]), (.exit 0, [0, 1, 2, 3, 9, 10], [(77, [(0, .k (.int .i64)), (1, .k (.ro [.int .i64, .int .i64, .int .i64])), (2, .k (.ro [.int .i64])), (3, .k (.ro [.int .i64])), (9, .k .bool), (10, .k .bool)], [])])]
end Go.Proofs.Ytipbcpobnciccaa
