/-
  Shapes of arguments, results and loops. Written by program.
-/
import Derived.Test.YtgmefblkmidglaaResSigB
namespace Go.Proofs.Ytgmefblkmidglaa
open Go.Lite
def s47 : Sig := ⟨[.k (.int .i64), .k (.int .i64), .k (.int .i64)], [(.k .bool, [])]⟩
def s25 : Sig := ⟨[.agg [.k (.int .i64), .k (.int .i64), .k (.int .i64), .k (.ro [.int .i64, .int .i64])], .k (.int .i64)], [(.k (.int .i64), [])]⟩
def l25_2 : LSig := mkLS [1, 2, 5] [(35, [(1, .k (.int .i64)), (2, .ptr 0 4 0 0), (5, .k (.int .i64))], [.box [.k (.int .i64), .k (.int .i64), .k (.int .i64), .k (.ro [.int .i64, .int .i64])]])] [(.exit 0, [1], [(35, [(1, .k (.int .i64))], [])])]
def s48 : Sig := ⟨[.k (.int .i64), .agg [.k (.int .i64), .k (.int .i64), .k (.int .i64), .k (.ro [.int .i64, .int .i64])]], [(.k .bool, [])]⟩
def l48_4 : LSig := mkLS [3, 5] [(83, [(3, .ptr 0 4 0 0), (5, .k (.int .i64))], [.box [.k (.int .i64), .k (.int .i64), .k (.int .i64), .k (.ro [.int .i64, .int .i64])]])] [(.ret, [4], [(83, [(4, .k .bool)], [])]), (.exit 0, [], [(83, [], [])])]
def s15 : Sig := ⟨[.agg [.k (.int .i64), .k (.ro [.int .i64, .int .i64, .int .i64, .ro [.int .i64, .int .i64]])]], [(.k .bool, [])]⟩
def l15_4 : LSig := mkLS [1, 3] [(45, [(1, .ptr 0 2 0 0), (3, .k (.int .i64))], [.box [.k (.int .i64), .k (.ro [.int .i64, .int .i64, .int .i64, .ro [.int .i64, .int .i64]])]])] [(.ret, [2], [(45, [(2, .k .bool)], [])]), (.exit 0, [], [(45, [], [])])]
def s18 : Sig := ⟨[.agg [.k (.int .i64), .k (.ro [.int .i64, .int .i64, .int .i64, .ro [.int .i64, .int .i64]])]], [(.k (.int .i64), [])]⟩
def l18_4 : LSig := mkLS [1, 19, 20, 21] [(92, [(1, .ptr 0 2 0 0), (19, .k (.ro [.int .i64, .int .i64, .int .i64, .ro [.int .i64, .int .i64]])), (20, .k (.int .i64)), (21, .k (.int .i64))], [.box [.k (.int .i64), .k (.ro [.int .i64, .int .i64, .int .i64, .ro [.int .i64, .int .i64]])]])] [(.ret, [2], [(92, [(2, .k (.int .i64))], [])]), (.exit 0, [], [(92, [], [])])]
def l18_10 : LSig := mkLS [1, 5, 19, 20, 21, 61, 62, 63] [(92, [(1, .ptr 0 2 0 0), (5, .k (.int .i64)), (19, .k (.ro [.int .i64, .int .i64, .int .i64, .ro [.int .i64, .int .i64]])), (20, .k (.int .i64)), (21, .k (.int .i64)), (61, .k (.ro [.int .i64, .int .i64])), (62, .k (.int .i64)), (63, .k (.int .i64))], [.box [.k (.int .i64), .k (.ro [.int .i64, .int .i64, .int .i64, .ro [.int .i64, .int .i64]])]])] [(.ret, [2], [(92, [(2, .k (.int .i64))], [])]), (.exit 2, [1, 19, 20, 21], [(92, [(1, .ptr 0 2 0 0), (19, .k (.ro [.int .i64, .int .i64, .int .i64, .ro [.int .i64, .int .i64]])), (20, .k (.int .i64)), (21, .k (.int .i64))], [.box [.k (.int .i64), .k (.ro [.int .i64, .int .i64, .int .i64, .ro [.int .i64, .int .i64]])]])])]
def s19 : Sig := ⟨[.agg [.k (.int .i64), .k (.ro [.int .i64, .int .i64, .int .i64, .ro [.int .i64, .int .i64]])]], [(.k .bool, [])]⟩
def l19_4 : LSig := mkLS [1, 3] [(30, [(1, .ptr 0 2 0 0), (3, .k (.int .i64))], [.box [.k (.int .i64), .k (.ro [.int .i64, .int .i64, .int .i64, .ro [.int .i64, .int .i64]])]])] [(.ret, [2], [(30, [(2, .k .bool)], [])]), (.exit 0, [], [(30, [], [])])]
def s20 : Sig := ⟨[.agg [.k (.int .i64), .k (.ro [.int .i64, .int .i64, .int .i64, .ro [.int .i64, .int .i64]])], .k (.int .i64), .k (.int .i64)], [(.k .bool, [])]⟩
def s21 : Sig := ⟨[.k (.ro [.int .i64]), .k (.ro [.int .i64])], [(.k .bool, [])]⟩
def l21_4 : LSig := mkLS [0, 1, 5] [(26, [(0, .k (.ro [.int .i64])), (1, .k (.ro [.int .i64])), (5, .k (.int .i64))], [])] [(.ret, [4], [(26, [(4, .k .bool)], [])]), (.exit 0, [], [(26, [], [])])]
def s49 : Sig := ⟨[.agg [.k (.int .i64), .k (.ro [.int .i64, .int .i64, .int .i64, .ro [.int .i64, .int .i64]])], .k (.int .i64), .k (.int .i64), .k (.int .i64)], [(.sl 0 1, [.row [.int .i64]])]⟩
def l49_3 : LSig := mkLS [1, 2, 3, 4, 9, 10] [(89, [(1, .k (.int .i64)), (2, .k (.int .i64)), (3, .k (.int .i64)), (4, .ptr 0 2 0 0), (9, .sl 1 1), (10, .k (.int .i64))], [.box [.k (.int .i64), .k (.ro [.int .i64, .int .i64, .int .i64, .ro [.int .i64, .int .i64]])], .row [.int .i64]])] [(.exit 0, [1, 2, 3, 4, 9], [(89, [(1, .k (.int .i64)), (2, .k (.int .i64)), (3, .k (.int .i64)), (4, .ptr 0 2 0 0), (9, .sl 1 1)], [.box [.k (.int .i64), .k (.ro [.int .i64, .int .i64, .int .i64, .ro [.int .i64, .int .i64]])], .row [.int .i64]])])]
def l49_8 : LSig := mkLS [3, 4, 9, 11] [(89, [(3, .k (.int .i64)), (4, .ptr 0 2 0 0), (9, .sl 1 1), (11, .k (.int .i64))], [.box [.k (.int .i64), .k (.ro [.int .i64, .int .i64, .int .i64, .ro [.int .i64, .int .i64]])], .row [.int .i64]])] [(.exit 2, [9], [(89, [(9, .sl 0 1)], [.row [.int .i64]])])]
def l49_12 : LSig := mkLS [3, 4, 9, 11, 12, 13] [(89, [(3, .k (.int .i64)), (4, .ptr 0 2 0 0), (9, .sl 1 1), (11, .k (.int .i64)), (12, .sl 2 1), (13, .k (.int .i64))], [.box [.k (.int .i64), .k (.ro [.int .i64, .int .i64, .int .i64, .ro [.int .i64, .int .i64]])], .row [.int .i64], .row [.int .i64]])] [(.exit 4, [3, 4, 11, 12], [(89, [(3, .k (.int .i64)), (4, .ptr 0 2 0 0), (11, .k (.int .i64)), (12, .sl 1 1)], [.box [.k (.int .i64), .k (.ro [.int .i64, .int .i64, .int .i64, .ro [.int .i64, .int .i64]])], .row [.int .i64]])])]
def s22 : Sig := ⟨[.agg [.k (.int .i64), .k (.ro [.int .i64, .int .i64, .int .i64, .ro [.int .i64, .int .i64]])], .k (.int .i64), .k (.int .i64)], [(.sl 0 1, [.row [.int .i64]])]⟩
def s17 : Sig := ⟨[.agg [.k (.int .i64), .k (.ro [.int .i64, .int .i64, .int .i64, .ro [.int .i64, .int .i64]])], .k (.int .i64), .k (.int .i64)], [(.tup [.nils, .k (.int .i64)], []), (.tup [.sl 0 1, .k (.int .i64)], [.row [.int .i64]])]⟩
def s3 : Sig := ⟨[.agg [.k (.int .i64), .k (.ro [.int .i64, .int .i64, .int .i64, .ro [.int .i64, .int .i64]])], .k (.int .i64), .k (.int .i64)], [(.k .bool, [])]⟩
end Go.Proofs.Ytgmefblkmidglaa
