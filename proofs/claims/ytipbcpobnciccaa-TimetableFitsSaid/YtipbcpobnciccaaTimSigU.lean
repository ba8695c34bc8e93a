/-
  Shapes of arguments, results and loops. Written by program.
-/
import Derived.Test.YtipbcpobnciccaaTimSigS
namespace Go.Proofs.Ytipbcpobnciccaa
open Go.Lite
def s44 : Sig := ⟨[.agg [.k (.int .i64), .k (.int .i64), .k (.ro [.int .i64, .int .i64, .int .i64, .int .i64, .bool, .int .i64, .int .i64, .ro [.int .i64, .int .i64, .int .i64]])], .agg [.k (.ro [.int .i64]), .k (.ro [.int .i64]), .k (.ro [.int .i64]), .k (.ro [.int .i64])]], [(.k .bool, [])]⟩
def l44_5 : LSig := mkLS [2, 3, 5, 58, 59, 60] [(213, [(2, .ptr 0 3 0 0), (3, .ptr 1 4 0 0), (5, .k (.int .i64)), (58, .k (.ro [.int .i64, .int .i64, .int .i64, .int .i64, .bool, .int .i64, .int .i64, .ro [.int .i64, .int .i64, .int .i64]])), (59, .k (.int .i64)), (60, .k (.int .i64))], [.box [.k (.int .i64), .k (.int .i64), .k (.ro [.int .i64, .int .i64, .int .i64, .int .i64, .bool, .int .i64, .int .i64, .ro [.int .i64, .int .i64, .int .i64]])], .box [.k (.ro [.int .i64]), .k (.ro [.int .i64]), .k (.ro [.int .i64]), .k (.ro [.int .i64])]])] [(.ret, [4], [(213, [(4, .k .bool)], [])]), (.exit 0, [], [(213, [], [])])]
end Go.Proofs.Ytipbcpobnciccaa
