/-
  Shapes of arguments, results and loops. Written by program.
-/
import Derived.Test.YtgmefblkmidglaaResSigF
namespace Go.Proofs.Ytgmefblkmidglaa
open Go.Lite
def s4 : Sig := ⟨[.agg [.k (.int .i64), .k (.ro [.int .i64, .int .i64, .int .i64, .ro [.int .i64, .int .i64]])], .k (.int .i64), .k (.int .i64), .k (.int .i64)], [(.k .bool, [])]⟩
def l4_13 : LSig := mkLS [9, 13, 14] [(116, [(9, .nils), (13, .nils), (14, .k (.int .i64))], []), (116, [(9, .nils), (13, .sl 0 2), (14, .k (.int .i64))], [.row [.int .i64, .int .i64]]), (116, [(9, .sl 0 2), (13, .nils), (14, .k (.int .i64))], [.row [.int .i64, .int .i64]]), (116, [(9, .sl 0 2), (13, .sl 1 2), (14, .k (.int .i64))], [.row [.int .i64, .int .i64], .row [.int .i64, .int .i64]])] [(.exit 0, [], [(116, [], [])]), (.ret, [8], [(116, [(8, .k .bool)], [])])]
end Go.Proofs.Ytgmefblkmidglaa
