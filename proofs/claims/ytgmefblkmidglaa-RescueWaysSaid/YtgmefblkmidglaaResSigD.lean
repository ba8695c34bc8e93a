/-
  Shapes of arguments, results and loops. Written by program.
-/
import Derived.Test.YtgmefblkmidglaaResSigC
namespace Go.Proofs.Ytgmefblkmidglaa
open Go.Lite
def s6 : Sig := ⟨[.agg [.k (.int .i64), .k (.ro [.int .i64, .int .i64, .int .i64, .ro [.int .i64, .int .i64]])], .k (.int .i64), .k (.int .i64)], [(.k .bool, [])]⟩
def l6_4 : LSig := mkLS [1, 2, 3, 7] [(180, [(1, .k (.int .i64)), (2, .k (.int .i64)), (3, .ptr 0 2 0 0), (7, .k (.int .i64))], [.box [.k (.int .i64), .k (.ro [.int .i64, .int .i64, .int .i64, .ro [.int .i64, .int .i64]])]])] [(.ret, [6], [(180, [(6, .k .bool)], [])]), (.exit 0, [1, 2, 3], [(180, [(1, .k (.int .i64)), (2, .k (.int .i64)), (3, .ptr 0 2 0 0)], [.box [.k (.int .i64), .k (.ro [.int .i64, .int .i64, .int .i64, .ro [.int .i64, .int .i64]])]])])]
def l6_12 : LSig := mkLS [1, 3, 8, 10] [(180, [(1, .k (.int .i64)), (3, .ptr 0 2 0 0), (8, .sl 1 1), (10, .k (.int .i64))], [.box [.k (.int .i64), .k (.ro [.int .i64, .int .i64, .int .i64, .ro [.int .i64, .int .i64]])], .row [.int .i64]])] [(.exit 2, [3, 8], [(180, [(3, .ptr 0 2 0 0), (8, .sl 1 1)], [.box [.k (.int .i64), .k (.ro [.int .i64, .int .i64, .int .i64, .ro [.int .i64, .int .i64]])], .row [.int .i64]])]), (.ret, [6], [(180, [(6, .k .bool)], [])])]
def l6_17 : LSig := mkLS [1, 3, 8, 10, 11, 12] [(180, [(1, .k (.int .i64)), (3, .ptr 0 2 0 0), (8, .sl 1 1), (10, .k (.int .i64)), (11, .k .bool), (12, .k (.int .i64))], [.box [.k (.int .i64), .k (.ro [.int .i64, .int .i64, .int .i64, .ro [.int .i64, .int .i64]])], .row [.int .i64]])] [(.exit 4, [1, 3, 8, 10, 11], [(180, [(1, .k (.int .i64)), (3, .ptr 0 2 0 0), (8, .sl 1 1), (10, .k (.int .i64)), (11, .k .bool)], [.box [.k (.int .i64), .k (.ro [.int .i64, .int .i64, .int .i64, .ro [.int .i64, .int .i64]])], .row [.int .i64]])])]
def l6_24 : LSig := mkLS [3, 8, 14] [(180, [(3, .ptr 0 2 0 0), (8, .sl 1 1), (14, .k (.int .i64))], [.box [.k (.int .i64), .k (.ro [.int .i64, .int .i64, .int .i64, .ro [.int .i64, .int .i64]])], .row [.int .i64]])] [(.ret, [6], [(180, [(6, .k .bool)], [])]), (.exit 6, [], [(180, [], [])])]
end Go.Proofs.Ytgmefblkmidglaa
