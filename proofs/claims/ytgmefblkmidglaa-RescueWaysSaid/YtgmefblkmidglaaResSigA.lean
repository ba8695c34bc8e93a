/-
  Shapes of arguments, results and loops. Written by program.
-/
import Derived.Test.YtgmefblkmidglaaResBase
namespace Go.Proofs.Ytgmefblkmidglaa
open Go.Lite
def s45 : Sig := ⟨[.k (.int .i64), .k (.int .i64), .k (.int .i64)], [(.k .bool, [])]⟩
def s51 : Sig := ⟨[.agg [.k (.int .i64), .k (.int .i64), .k (.int .i64), .k (.ro [.int .i64, .int .i64])], .k (.int .i64)], [(.k (.int .i64), [])]⟩
def l51_2 : LSig := mkLS [1, 2, 8, 9, 10] [(31, [(1, .k (.int .i64)), (2, .ptr 0 4 0 0), (8, .k (.ro [.int .i64, .int .i64])), (9, .k (.int .i64)), (10, .k (.int .i64))], [.box [.k (.int .i64), .k (.int .i64), .k (.int .i64), .k (.ro [.int .i64, .int .i64])]])] [(.exit 0, [1], [(31, [(1, .k (.int .i64))], [])])]
def s123 : Sig := ⟨[.k (.ro [.int .i64, .int .i64])], [(.k (.int .i64), [])]⟩
def s124 : Sig := ⟨[.k (.ro [.int .i64, .int .i64]), .k (.int .i64), .k (.int .i64)], [(.k .bool, [])]⟩
def s126 : SigW := ⟨[.sl 0 2, .k (.int .i64), .k (.int .i64)], [.row [.int .i64, .int .i64]], [(.tup [], [.row [.int .i64, .int .i64]])]⟩
def s131 : SigW := ⟨[.ptr 0 1 0 0], [.box [.sl 1 2], .row [.int .i64, .int .i64]], [(.ifc 116 (.agg [.k (.int .i64), .k (.int .i64)]), [.box [.sl 1 2], .row [.int .i64, .int .i64]])]⟩
def s125 : SigW := ⟨[.ptr 0 1 0 0, .ifc 116 (.agg [.k (.int .i64), .k (.int .i64)])], [.box [.sl 1 2], .row [.int .i64, .int .i64]], [(.tup [], [.box [.sl 2 2], .none, .row [.int .i64, .int .i64]])]⟩
def s101 : SigW := ⟨[.ifc 159 (.ptr 0 1 0 0), .k (.int .i64)], [.box [.sl 1 2], .row [.int .i64, .int .i64]], [(.tup [], [.box [.sl 1 2], .row [.int .i64, .int .i64]])]⟩
def l101_0 : LSig := mkLS [0, 1] [(23, [(0, .ifc 159 (.ptr 0 1 0 0)), (1, .k (.int .i64))], [.box [.sl 1 2], .row [.int .i64, .int .i64]])] [(.exit 0, [], [(23, [], [.box [.sl 1 2], .row [.int .i64, .int .i64]])])]
def s129 : SigW := ⟨[.ifc 159 (.ptr 0 1 0 0), .k (.int .i64), .k (.int .i64)], [.box [.sl 1 2], .row [.int .i64, .int .i64]], [(.k .bool, [.box [.sl 1 2], .row [.int .i64, .int .i64]])]⟩
def l129_2 : LSig := mkLS [0, 1, 2, 7] [(48, [(0, .ifc 159 (.ptr 0 1 0 0)), (1, .k (.int .i64)), (2, .k (.int .i64)), (7, .k (.int .i64))], [.box [.sl 1 2], .row [.int .i64, .int .i64]])] [(.exit 0, [1, 7], [(48, [(1, .k (.int .i64)), (7, .k (.int .i64))], [.box [.sl 1 2], .row [.int .i64, .int .i64]])])]
def s93 : SigW := ⟨[.ifc 159 (.ptr 0 1 0 0), .ifc 116 (.agg [.k (.int .i64), .k (.int .i64)])], [.box [.sl 1 2], .row [.int .i64, .int .i64]], [(.tup [], [.box [.sl 2 2], .none, .row [.int .i64, .int .i64]])]⟩
def s128 : SigW := ⟨[.ifc 159 (.ptr 0 1 0 0)], [.box [.sl 1 2], .row [.int .i64, .int .i64]], [(.ifc 116 (.agg [.k (.int .i64), .k (.int .i64)]), [.box [.sl 1 2], .row [.int .i64, .int .i64]])]⟩
def s127 : SigW := ⟨[.ptr 0 1 0 0], [.box [.sl 1 2], .row [.int .i64, .int .i64]], [(.agg [.k (.int .i64), .k (.int .i64)], [.box [.sl 1 2], .row [.int .i64, .int .i64]])]⟩
def s74 : SigW := ⟨[.k (.int .i64), .k (.int .i64), .eptr [.k (.int .i64), .k (.ro [.int .i64, .int .i64, .int .i64, .ro [.int .i64, .int .i64]])]], [], [(.fn 75 [] [.eptr [.k (.int .i64), .k (.ro [.int .i64, .int .i64, .int .i64, .ro [.int .i64, .int .i64]])], .ptr 0 1 0 0, .ptr 1 1 0 0], [.box [.k (.int .i64)], .box [.k (.int .i64)]])]⟩
def s75 : SigI := ⟨[.yl, .eptr [.k (.int .i64), .k (.ro [.int .i64, .int .i64, .int .i64, .ro [.int .i64, .int .i64]])], .ptr 0 1 0 0, .ptr 1 1 0 0], [.box [.k (.int .i64)], .box [.k (.int .i64)]]⟩
def y75 : YS := mkY [.agg [.k (.int .i64), .k (.int .i64)]] [] false
def l75_1 : LSig := mkLS [0, 2, 3, 8, 9, 10] [(33, [(0, .yl), (2, .ptr 0 1 0 0), (3, .ptr 1 1 0 0), (8, .k (.ro [.int .i64, .int .i64, .int .i64, .ro [.int .i64, .int .i64]])), (9, .k (.int .i64)), (10, .k (.int .i64))], [.box [.k (.int .i64)], .box [.k (.int .i64)]])] [(.ret, [], [(33, [], [.box [.k (.int .i64)], .box [.k (.int .i64)]])]), (.exit 0, [], [(33, [], [.box [.k (.int .i64)], .box [.k (.int .i64)]])])]
end Go.Proofs.Ytgmefblkmidglaa
