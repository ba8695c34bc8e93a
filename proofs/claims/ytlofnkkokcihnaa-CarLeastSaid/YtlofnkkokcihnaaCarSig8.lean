/-
  Shapes of arguments, results and loops. Written by program.
-/
import Derived.Test.YtlofnkkokcihnaaCarTabF
namespace Go.Proofs.Ytlofnkkokcihnaa
open Go.Lite
def s8 : Sig := ⟨[.k (.int .i64), .k (.int .i64), .k (.int .i64), .k (.ro [.int .i64, .int .i64, .int .i64]), .k (.ro [.int .i64]), .k (.ro [.int .i64])], [(.k .bool, [])]⟩
def l8_11 : LSig := mkLS [0, 1, 3, 4, 5, 13, 14, 16, 17] [(183, [(0, .k (.int .i64)), (1, .k (.int .i64)), (3, .k (.ro [.int .i64, .int .i64, .int .i64])), (4, .k (.ro [.int .i64])), (5, .k (.ro [.int .i64])), (13, .k .bool), (14, .sl 0 1), (16, .k (.int .i64)), (17, .k (.int .i64))], [.row [.int .i64]])] [(.exit 0, [4, 13, 14], [(183, [(4, .k (.ro [.int .i64])), (13, .k .bool), (14, .sl 0 1)], [.row [.int .i64]])]), (.ret, [12], [(183, [(12, .k .bool)], [])])]
def l8_27 : LSig := mkLS [4, 14, 19] [(183, [(4, .k (.ro [.int .i64])), (14, .sl 0 1), (19, .k (.int .i64))], [.row [.int .i64]])] [(.exit 2, [], [(183, [], [])]), (.ret, [12], [(183, [(12, .k .bool)], [])])]
end Go.Proofs.Ytlofnkkokcihnaa
