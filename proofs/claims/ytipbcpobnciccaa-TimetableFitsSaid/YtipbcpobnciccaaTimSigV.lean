/-
  Shapes of arguments, results and loops. Written by program.
-/
import Derived.Test.YtipbcpobnciccaaTimSigU
namespace Go.Proofs.Ytipbcpobnciccaa
open Go.Lite
def s14 : Sig := ⟨[.agg [.k (.int .i64), .k (.int .i64), .k (.ro [.int .i64, .int .i64, .int .i64, .int .i64, .bool, .int .i64, .int .i64, .ro [.int .i64, .int .i64, .int .i64]])], .agg [.k (.ro [.int .i64]), .k (.ro [.int .i64]), .k (.ro [.int .i64]), .k (.ro [.int .i64])], .k (.int .i64), .k (.int .i64)], [(.k .bool, [])]⟩
def l14_9 : LSig := mkLS [2, 3, 4, 5, 9, 10, 11, 12, 13, 14] [(162, [(2, .k (.int .i64)), (3, .k (.int .i64)), (4, .ptr 0 3 0 0), (5, .ptr 1 4 0 0), (9, .k .bool), (10, .k (.int .i64)), (11, .k (.int .i64)), (12, .k (.int .i64)), (13, .k .bool), (14, .k (.int .i64))], [.box [.k (.int .i64), .k (.int .i64), .k (.ro [.int .i64, .int .i64, .int .i64, .int .i64, .bool, .int .i64, .int .i64, .ro [.int .i64, .int .i64, .int .i64]])], .box [.k (.ro [.int .i64]), .k (.ro [.int .i64]), .k (.ro [.int .i64]), .k (.ro [.int .i64])]])] [(.exit 0, [2, 3, 4, 5, 9, 10, 11, 12, 13], [(162, [(2, .k (.int .i64)), (3, .k (.int .i64)), (4, .ptr 0 3 0 0), (5, .ptr 1 4 0 0), (9, .k .bool), (10, .k (.int .i64)), (11, .k (.int .i64)), (12, .k (.int .i64)), (13, .k .bool)], [.box [.k (.int .i64), .k (.int .i64), .k (.ro [.int .i64, .int .i64, .int .i64, .int .i64, .bool, .int .i64, .int .i64, .ro [.int .i64, .int .i64, .int .i64]])], .box [.k (.ro [.int .i64]), .k (.ro [.int .i64]), .k (.ro [.int .i64]), .k (.ro [.int .i64])]])])]
end Go.Proofs.Ytipbcpobnciccaa
