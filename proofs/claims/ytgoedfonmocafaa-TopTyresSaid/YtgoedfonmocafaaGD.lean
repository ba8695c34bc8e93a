/-
  Shapes of arguments, results and loops. Written by program.
  What the functions of roads compute: ranges over pieces, copies, reversing, loops.
  Tables. Written by program.
  What the rounds and the functions come to. Written by program.
  Ranges over functions whose rounds hold no loops: heads may hold different numbers of blocks.
  Helpers of Part and Reverse: measured roads, ranges over pieces, copies, reversing, loops.
-/
import Derived.Test.YtgoedfonmocafaaGC
import Derived.Test.YtgoedfonmocafaaSymGo
namespace Go.Proofs.Ytgoedfonmocafaa
open Go.Lite
def s54 : SigW := ⟨[.ptr 0 4 0 0], [.box [.k (.ro [.int .i64, .int .i64, .int .i64, .int .i64, .int .i64]), .k (.ro [.int .i64, .int .i64]), .k (.ro [.int .i64, .int .i64, .int .i64]), .sl 1 1], .row [.int .i64]], [(.fn 98 [] [.ptr 2 1 0 0], [.box [.k (.ro [.int .i64, .int .i64, .int .i64, .int .i64, .int .i64]), .k (.ro [.int .i64, .int .i64]), .k (.ro [.int .i64, .int .i64, .int .i64]), .sl 1 1], .row [.int .i64], .box [.ptr 0 4 0 0]])]⟩
def s98 : SigI := ⟨[.yl, .ptr 0 1 0 0], [.box [.ptr 1 4 0 0], .box [.k (.ro [.int .i64, .int .i64, .int .i64, .int .i64, .int .i64]), .k (.ro [.int .i64, .int .i64]), .k (.ro [.int .i64, .int .i64, .int .i64]), .sl 2 1], .row [.int .i64]]⟩
def y98 : YS := mkY [.k (.int .i64), .agg [.k (.int .i64), .k (.int .i64), .k (.int .i64), .k (.int .i64), .k (.int .i64)]] [] false
def l98_1 : LSig := mkLS [0, 1, 9, 10, 11] [(28, [(0, .yl), (1, .ptr 0 1 0 0), (9, .k (.ro [.int .i64, .int .i64, .int .i64, .int .i64, .int .i64])), (10, .k (.int .i64)), (11, .k (.int .i64))], [.box [.ptr 1 4 0 0], .box [.k (.ro [.int .i64, .int .i64, .int .i64, .int .i64, .int .i64]), .k (.ro [.int .i64, .int .i64]), .k (.ro [.int .i64, .int .i64, .int .i64]), .sl 2 1], .row [.int .i64]])] [(.ret, [], [(28, [], [.box [.ptr 1 4 0 0], .box [.k (.ro [.int .i64, .int .i64, .int .i64, .int .i64, .int .i64]), .k (.ro [.int .i64, .int .i64]), .k (.ro [.int .i64, .int .i64, .int .i64]), .sl 2 1], .row [.int .i64]])]), (.exit 0, [], [(28, [], [.box [.ptr 1 4 0 0], .box [.k (.ro [.int .i64, .int .i64, .int .i64, .int .i64, .int .i64]), .k (.ro [.int .i64, .int .i64]), .k (.ro [.int .i64, .int .i64, .int .i64]), .sl 2 1], .row [.int .i64]])])]
def s56 : Sig := ⟨[.k (.ro [.int .i64, .int .i64, .int .i64, .int .i64, .int .i64])], [(.sl 0 5, [.row [.int .i64, .int .i64, .int .i64, .int .i64, .int .i64]])]⟩
def s57 : Sig := ⟨[.k (.ro [.int .i64, .int .i64])], [(.sl 0 2, [.row [.int .i64, .int .i64]]), (.emp 2, [])]⟩
def s58 : Sig := ⟨[.k (.ro [.int .i64, .int .i64, .int .i64])], [(.sl 0 3, [.row [.int .i64, .int .i64, .int .i64]]), (.emp 3, [])]⟩
def s59 : SigW := ⟨[.sl 0 5], [.row [.int .i64, .int .i64, .int .i64, .int .i64, .int .i64]], [(.tup [], [.row [.int .i64, .int .i64, .int .i64, .int .i64, .int .i64]])]⟩
def l59_1 : LSig := mkLS [0, 2, 3] [(28, [(0, .sl 0 5), (2, .k (.int .i64)), (3, .k (.int .i64))], [.row [.int .i64, .int .i64, .int .i64, .int .i64, .int .i64]])] [(.exit 0, [], [(28, [], [.row [.int .i64, .int .i64, .int .i64, .int .i64, .int .i64]])])]
def s60 : SigW := ⟨[.sl 0 2], [.row [.int .i64, .int .i64]], [(.tup [], [.row [.int .i64, .int .i64]])]⟩
def l60_1 : LSig := mkLS [0, 2, 3] [(28, [(0, .sl 0 2), (2, .k (.int .i64)), (3, .k (.int .i64))], [.row [.int .i64, .int .i64]])] [(.exit 0, [], [(28, [], [.row [.int .i64, .int .i64]])])]
def s61 : SigW := ⟨[.sl 0 3], [.row [.int .i64, .int .i64, .int .i64]], [(.tup [], [.row [.int .i64, .int .i64, .int .i64]])]⟩
def l61_1 : LSig := mkLS [0, 2, 3] [(28, [(0, .sl 0 3), (2, .k (.int .i64)), (3, .k (.int .i64))], [.row [.int .i64, .int .i64, .int .i64]])] [(.exit 0, [], [(28, [], [.row [.int .i64, .int .i64, .int .i64]])])]
def s1060 : SigW := ⟨[.emp 2], [], [(.tup [], [])]⟩
def l1060_1 : LSig := mkLS [0, 2, 3] [(28, [(0, .emp 2), (2, .k (.int .i64)), (3, .k (.int .i64))], [])] [(.exit 0, [], [(28, [], [])])]
def s1061 : SigW := ⟨[.emp 3], [], [(.tup [], [])]⟩
def l1061_1 : LSig := mkLS [0, 2, 3] [(28, [(0, .emp 3), (2, .k (.int .i64)), (3, .k (.int .i64))], [])] [(.exit 0, [], [(28, [], [])])]
def s18 : Sig := ⟨[.agg [.k (.ro [.int .i64, .int .i64, .int .i64, .int .i64, .int .i64]), .k (.ro [.int .i64, .int .i64]), .k (.ro [.int .i64, .int .i64, .int .i64])], .k (.int .i64), .k (.int .i64)], [(.tup [.agg [.k (.ro [.int .i64, .int .i64, .int .i64, .int .i64, .int .i64]), .k (.ro [.int .i64, .int .i64]), .k (.ro [.int .i64, .int .i64, .int .i64])], .k (.int .i64)], [])]⟩
def h18_11 : List Shp := [mkShp (116, [(3, .ptr 0 3 0 0), (4, .ptr 1 1 0 0), (5, .ptr 2 1 0 0), (6, .ptr 3 3 0 0), (7, .k (.int .i64)), (10, .ptr 4 3 0 0), (42, .fn 98 [] [.any])], [.box [.k (.ro [.int .i64, .int .i64, .int .i64, .int .i64, .int .i64]), .k (.ro [.int .i64, .int .i64]), .k (.ro [.int .i64, .int .i64, .int .i64])], .box [.k (.int .i64)], .box [.k (.int .i64)], .box [.nils, .nils, .nils], .box [.nils, .nils, .nils]]), mkShp (116, [(3, .ptr 0 3 0 0), (4, .ptr 1 1 0 0), (5, .ptr 2 1 0 0), (6, .ptr 3 3 0 0), (7, .k (.int .i64)), (10, .ptr 4 3 0 0), (42, .fn 98 [] [.any])], [.box [.k (.ro [.int .i64, .int .i64, .int .i64, .int .i64, .int .i64]), .k (.ro [.int .i64, .int .i64]), .k (.ro [.int .i64, .int .i64, .int .i64])], .box [.k (.int .i64)], .box [.k (.int .i64)], .box [.nils, .nils, .nils], .box [.sl 5 5, .nils, .nils], .row [.int .i64, .int .i64, .int .i64, .int .i64, .int .i64]])]
def l18_16 : LSig := mkLS [3, 4, 5, 6, 10, 68, 69, 70] [(116, [(3, .ptr 0 3 0 0), (4, .ptr 1 1 0 0), (5, .ptr 2 1 0 0), (6, .ptr 3 3 0 0), (10, .ptr 4 3 0 0), (68, .k (.ro [.int .i64, .int .i64])), (69, .k (.int .i64)), (70, .k (.int .i64))], [.box [.k (.ro [.int .i64, .int .i64, .int .i64, .int .i64, .int .i64]), .k (.ro [.int .i64, .int .i64]), .k (.ro [.int .i64, .int .i64, .int .i64])], .box [.k (.int .i64)], .box [.k (.int .i64)], .box [.nils, .nils, .nils], .box [.sl 5 5, .nils, .nils], .row [.int .i64, .int .i64, .int .i64, .int .i64, .int .i64]]), (116, [(3, .ptr 0 3 0 0), (4, .ptr 1 1 0 0), (5, .ptr 2 1 0 0), (6, .ptr 3 3 0 0), (10, .ptr 4 3 0 0), (68, .k (.ro [.int .i64, .int .i64])), (69, .k (.int .i64)), (70, .k (.int .i64))], [.box [.k (.ro [.int .i64, .int .i64, .int .i64, .int .i64, .int .i64]), .k (.ro [.int .i64, .int .i64]), .k (.ro [.int .i64, .int .i64, .int .i64])], .box [.k (.int .i64)], .box [.k (.int .i64)], .box [.nils, .nils, .nils], .box [.sl 5 5, .sl 6 2, .nils], .row [.int .i64, .int .i64, .int .i64, .int .i64, .int .i64], .row [.int .i64, .int .i64]])] [(.exit 2, [3, 4, 5, 6, 10], [(116, [(3, .ptr 0 3 0 0), (4, .ptr 1 1 0 0), (5, .ptr 2 1 0 0), (6, .ptr 3 3 0 0), (10, .ptr 4 3 0 0)], [.box [.k (.ro [.int .i64, .int .i64, .int .i64, .int .i64, .int .i64]), .k (.ro [.int .i64, .int .i64]), .k (.ro [.int .i64, .int .i64, .int .i64])], .box [.k (.int .i64)], .box [.k (.int .i64)], .box [.nils, .nils, .nils], .box [.sl 5 5, .nils, .nils], .row [.int .i64, .int .i64, .int .i64, .int .i64, .int .i64]]), (116, [(3, .ptr 0 3 0 0), (4, .ptr 1 1 0 0), (5, .ptr 2 1 0 0), (6, .ptr 3 3 0 0), (10, .ptr 4 3 0 0)], [.box [.k (.ro [.int .i64, .int .i64, .int .i64, .int .i64, .int .i64]), .k (.ro [.int .i64, .int .i64]), .k (.ro [.int .i64, .int .i64, .int .i64])], .box [.k (.int .i64)], .box [.k (.int .i64)], .box [.nils, .nils, .nils], .box [.sl 5 5, .sl 6 2, .nils], .row [.int .i64, .int .i64, .int .i64, .int .i64, .int .i64], .row [.int .i64, .int .i64]])])]
def l18_23 : LSig := mkLS [4, 5, 6, 10, 92, 93, 94] [(116, [(4, .ptr 0 1 0 0), (5, .ptr 1 1 0 0), (6, .ptr 2 3 0 0), (10, .ptr 3 3 0 0), (92, .k (.ro [.int .i64, .int .i64, .int .i64])), (93, .k (.int .i64)), (94, .k (.int .i64))], [.box [.k (.int .i64)], .box [.k (.int .i64)], .box [.nils, .nils, .nils], .box [.sl 4 5, .nils, .nils], .row [.int .i64, .int .i64, .int .i64, .int .i64, .int .i64]]), (116, [(4, .ptr 0 1 0 0), (5, .ptr 1 1 0 0), (6, .ptr 2 3 0 0), (10, .ptr 3 3 0 0), (92, .k (.ro [.int .i64, .int .i64, .int .i64])), (93, .k (.int .i64)), (94, .k (.int .i64))], [.box [.k (.int .i64)], .box [.k (.int .i64)], .box [.nils, .nils, .nils], .box [.sl 4 5, .sl 5 2, .nils], .row [.int .i64, .int .i64, .int .i64, .int .i64, .int .i64], .row [.int .i64, .int .i64]]), (116, [(4, .ptr 0 1 0 0), (5, .ptr 1 1 0 0), (6, .ptr 2 3 0 0), (10, .ptr 3 3 0 0), (92, .k (.ro [.int .i64, .int .i64, .int .i64])), (93, .k (.int .i64)), (94, .k (.int .i64))], [.box [.k (.int .i64)], .box [.k (.int .i64)], .box [.nils, .nils, .nils], .box [.sl 4 5, .nils, .sl 5 3], .row [.int .i64, .int .i64, .int .i64, .int .i64, .int .i64], .row [.int .i64, .int .i64, .int .i64]]), (116, [(4, .ptr 0 1 0 0), (5, .ptr 1 1 0 0), (6, .ptr 2 3 0 0), (10, .ptr 3 3 0 0), (92, .k (.ro [.int .i64, .int .i64, .int .i64])), (93, .k (.int .i64)), (94, .k (.int .i64))], [.box [.k (.int .i64)], .box [.k (.int .i64)], .box [.nils, .nils, .nils], .box [.sl 4 5, .sl 5 2, .sl 6 3], .row [.int .i64, .int .i64, .int .i64, .int .i64, .int .i64], .row [.int .i64, .int .i64], .row [.int .i64, .int .i64, .int .i64]])] [(.exit 4, [6, 10], [(116, [(6, .ptr 0 3 0 0), (10, .ptr 1 3 0 0)], [.box [.nils, .nils, .nils], .box [.sl 2 5, .nils, .nils], .row [.int .i64, .int .i64, .int .i64, .int .i64, .int .i64]]), (116, [(6, .ptr 0 3 0 0), (10, .ptr 1 3 0 0)], [.box [.nils, .nils, .nils], .box [.sl 2 5, .sl 3 2, .nils], .row [.int .i64, .int .i64, .int .i64, .int .i64, .int .i64], .row [.int .i64, .int .i64]]), (116, [(6, .ptr 0 3 0 0), (10, .ptr 1 3 0 0)], [.box [.nils, .nils, .nils], .box [.sl 2 5, .nils, .sl 3 3], .row [.int .i64, .int .i64, .int .i64, .int .i64, .int .i64], .row [.int .i64, .int .i64, .int .i64]]), (116, [(6, .ptr 0 3 0 0), (10, .ptr 1 3 0 0)], [.box [.nils, .nils, .nils], .box [.sl 2 5, .sl 3 2, .sl 4 3], .row [.int .i64, .int .i64, .int .i64, .int .i64, .int .i64], .row [.int .i64, .int .i64], .row [.int .i64, .int .i64, .int .i64]])])]
def s20 : Sig := ⟨[.agg [.k (.ro [.int .i64, .int .i64, .int .i64, .int .i64, .int .i64]), .k (.ro [.int .i64, .int .i64]), .k (.ro [.int .i64, .int .i64, .int .i64])]], [(.tup [.agg [.k (.ro [.int .i64, .int .i64, .int .i64, .int .i64, .int .i64]), .k (.ro [.int .i64, .int .i64]), .k (.ro [.int .i64, .int .i64, .int .i64])], .k (.int .i64)], [])]⟩
def l20_10 : LSig := mkLS [2, 5, 6, 41, 42] [(112, [(2, .ptr 0 3 0 0), (5, .k (.int .i64)), (6, .ptr 1 3 0 0), (41, .k (.int .i64)), (42, .k (.int .i64))], [.box [.nils, .nils, .nils], .box [.sl 2 5, .emp 2, .emp 3], .row [.int .i64, .int .i64, .int .i64, .int .i64, .int .i64]]), (112, [(2, .ptr 0 3 0 0), (5, .k (.int .i64)), (6, .ptr 1 3 0 0), (41, .k (.int .i64)), (42, .k (.int .i64))], [.box [.nils, .nils, .nils], .box [.sl 2 5, .emp 2, .sl 3 3], .row [.int .i64, .int .i64, .int .i64, .int .i64, .int .i64], .row [.int .i64, .int .i64, .int .i64]]), (112, [(2, .ptr 0 3 0 0), (5, .k (.int .i64)), (6, .ptr 1 3 0 0), (41, .k (.int .i64)), (42, .k (.int .i64))], [.box [.nils, .nils, .nils], .box [.sl 2 5, .sl 3 2, .emp 3], .row [.int .i64, .int .i64, .int .i64, .int .i64, .int .i64], .row [.int .i64, .int .i64]]), (112, [(2, .ptr 0 3 0 0), (5, .k (.int .i64)), (6, .ptr 1 3 0 0), (41, .k (.int .i64)), (42, .k (.int .i64))], [.box [.nils, .nils, .nils], .box [.sl 2 5, .sl 3 2, .sl 4 3], .row [.int .i64, .int .i64, .int .i64, .int .i64, .int .i64], .row [.int .i64, .int .i64], .row [.int .i64, .int .i64, .int .i64]])] [(.exit 0, [2, 5, 6], [(112, [(2, .ptr 0 3 0 0), (5, .k (.int .i64)), (6, .ptr 1 3 0 0)], [.box [.nils, .nils, .nils], .box [.sl 2 5, .emp 2, .emp 3], .row [.int .i64, .int .i64, .int .i64, .int .i64, .int .i64]]), (112, [(2, .ptr 0 3 0 0), (5, .k (.int .i64)), (6, .ptr 1 3 0 0)], [.box [.nils, .nils, .nils], .box [.sl 2 5, .emp 2, .sl 3 3], .row [.int .i64, .int .i64, .int .i64, .int .i64, .int .i64], .row [.int .i64, .int .i64, .int .i64]]), (112, [(2, .ptr 0 3 0 0), (5, .k (.int .i64)), (6, .ptr 1 3 0 0)], [.box [.nils, .nils, .nils], .box [.sl 2 5, .sl 3 2, .emp 3], .row [.int .i64, .int .i64, .int .i64, .int .i64, .int .i64], .row [.int .i64, .int .i64]]), (112, [(2, .ptr 0 3 0 0), (5, .k (.int .i64)), (6, .ptr 1 3 0 0)], [.box [.nils, .nils, .nils], .box [.sl 2 5, .sl 3 2, .sl 4 3], .row [.int .i64, .int .i64, .int .i64, .int .i64, .int .i64], .row [.int .i64, .int .i64], .row [.int .i64, .int .i64, .int .i64]])])]
def l20_15 : LSig := mkLS [2, 5, 6, 60, 61] [(112, [(2, .ptr 0 3 0 0), (5, .k (.int .i64)), (6, .ptr 1 3 0 0), (60, .k (.int .i64)), (61, .k (.int .i64))], [.box [.nils, .nils, .nils], .box [.sl 2 5, .emp 2, .emp 3], .row [.int .i64, .int .i64, .int .i64, .int .i64, .int .i64]]), (112, [(2, .ptr 0 3 0 0), (5, .k (.int .i64)), (6, .ptr 1 3 0 0), (60, .k (.int .i64)), (61, .k (.int .i64))], [.box [.nils, .nils, .nils], .box [.sl 2 5, .emp 2, .sl 3 3], .row [.int .i64, .int .i64, .int .i64, .int .i64, .int .i64], .row [.int .i64, .int .i64, .int .i64]]), (112, [(2, .ptr 0 3 0 0), (5, .k (.int .i64)), (6, .ptr 1 3 0 0), (60, .k (.int .i64)), (61, .k (.int .i64))], [.box [.nils, .nils, .nils], .box [.sl 2 5, .sl 3 2, .emp 3], .row [.int .i64, .int .i64, .int .i64, .int .i64, .int .i64], .row [.int .i64, .int .i64]]), (112, [(2, .ptr 0 3 0 0), (5, .k (.int .i64)), (6, .ptr 1 3 0 0), (60, .k (.int .i64)), (61, .k (.int .i64))], [.box [.nils, .nils, .nils], .box [.sl 2 5, .sl 3 2, .sl 4 3], .row [.int .i64, .int .i64, .int .i64, .int .i64, .int .i64], .row [.int .i64, .int .i64], .row [.int .i64, .int .i64, .int .i64]])] [(.exit 2, [2, 5, 6], [(112, [(2, .ptr 0 3 0 0), (5, .k (.int .i64)), (6, .ptr 1 3 0 0)], [.box [.nils, .nils, .nils], .box [.sl 2 5, .emp 2, .emp 3], .row [.int .i64, .int .i64, .int .i64, .int .i64, .int .i64]]), (112, [(2, .ptr 0 3 0 0), (5, .k (.int .i64)), (6, .ptr 1 3 0 0)], [.box [.nils, .nils, .nils], .box [.sl 2 5, .emp 2, .sl 3 3], .row [.int .i64, .int .i64, .int .i64, .int .i64, .int .i64], .row [.int .i64, .int .i64, .int .i64]]), (112, [(2, .ptr 0 3 0 0), (5, .k (.int .i64)), (6, .ptr 1 3 0 0)], [.box [.nils, .nils, .nils], .box [.sl 2 5, .sl 3 2, .emp 3], .row [.int .i64, .int .i64, .int .i64, .int .i64, .int .i64], .row [.int .i64, .int .i64]]), (112, [(2, .ptr 0 3 0 0), (5, .k (.int .i64)), (6, .ptr 1 3 0 0)], [.box [.nils, .nils, .nils], .box [.sl 2 5, .sl 3 2, .sl 4 3], .row [.int .i64, .int .i64, .int .i64, .int .i64, .int .i64], .row [.int .i64, .int .i64], .row [.int .i64, .int .i64, .int .i64]])])]
def l20_20 : LSig := mkLS [2, 5, 6, 80, 81] [(112, [(2, .ptr 0 3 0 0), (5, .k (.int .i64)), (6, .ptr 1 3 0 0), (80, .k (.int .i64)), (81, .k (.int .i64))], [.box [.nils, .nils, .nils], .box [.sl 2 5, .emp 2, .emp 3], .row [.int .i64, .int .i64, .int .i64, .int .i64, .int .i64]]), (112, [(2, .ptr 0 3 0 0), (5, .k (.int .i64)), (6, .ptr 1 3 0 0), (80, .k (.int .i64)), (81, .k (.int .i64))], [.box [.nils, .nils, .nils], .box [.sl 2 5, .emp 2, .sl 3 3], .row [.int .i64, .int .i64, .int .i64, .int .i64, .int .i64], .row [.int .i64, .int .i64, .int .i64]]), (112, [(2, .ptr 0 3 0 0), (5, .k (.int .i64)), (6, .ptr 1 3 0 0), (80, .k (.int .i64)), (81, .k (.int .i64))], [.box [.nils, .nils, .nils], .box [.sl 2 5, .sl 3 2, .emp 3], .row [.int .i64, .int .i64, .int .i64, .int .i64, .int .i64], .row [.int .i64, .int .i64]]), (112, [(2, .ptr 0 3 0 0), (5, .k (.int .i64)), (6, .ptr 1 3 0 0), (80, .k (.int .i64)), (81, .k (.int .i64))], [.box [.nils, .nils, .nils], .box [.sl 2 5, .sl 3 2, .sl 4 3], .row [.int .i64, .int .i64, .int .i64, .int .i64, .int .i64], .row [.int .i64, .int .i64], .row [.int .i64, .int .i64, .int .i64]])] [(.exit 4, [2, 6], [(112, [(2, .ptr 0 3 0 0), (6, .ptr 1 3 0 0)], [.box [.nils, .nils, .nils], .box [.sl 2 5, .emp 2, .emp 3], .row [.int .i64, .int .i64, .int .i64, .int .i64, .int .i64]]), (112, [(2, .ptr 0 3 0 0), (6, .ptr 1 3 0 0)], [.box [.nils, .nils, .nils], .box [.sl 2 5, .emp 2, .sl 3 3], .row [.int .i64, .int .i64, .int .i64, .int .i64, .int .i64], .row [.int .i64, .int .i64, .int .i64]]), (112, [(2, .ptr 0 3 0 0), (6, .ptr 1 3 0 0)], [.box [.nils, .nils, .nils], .box [.sl 2 5, .sl 3 2, .emp 3], .row [.int .i64, .int .i64, .int .i64, .int .i64, .int .i64], .row [.int .i64, .int .i64]]), (112, [(2, .ptr 0 3 0 0), (6, .ptr 1 3 0 0)], [.box [.nils, .nils, .nils], .box [.sl 2 5, .sl 3 2, .sl 4 3], .row [.int .i64, .int .i64, .int .i64, .int .i64, .int .i64], .row [.int .i64, .int .i64], .row [.int .i64, .int .i64, .int .i64]])])]
def s22 : Sig := ⟨[.agg [.k (.ro [.int .i64, .int .i64, .int .i64, .int .i64, .int .i64]), .k (.ro [.int .i64, .int .i64]), .k (.ro [.int .i64, .int .i64, .int .i64])], .k (.int .i64), .k .bool], [(.k (.ro [.int .i64, .int .i64, .int .i64, .bool]), [])]⟩
def l22_3 : LSig := mkLS [1, 2, 3, 7, 8] [(36, [(1, .k (.int .i64)), (2, .k .bool), (3, .ptr 0 3 0 0), (7, .nils), (8, .k (.int .i64))], [.box [.k (.ro [.int .i64, .int .i64, .int .i64, .int .i64, .int .i64]), .k (.ro [.int .i64, .int .i64]), .k (.ro [.int .i64, .int .i64, .int .i64])]]), (36, [(1, .k (.int .i64)), (2, .k .bool), (3, .ptr 0 3 0 0), (7, .sl 1 4), (8, .k (.int .i64))], [.box [.k (.ro [.int .i64, .int .i64, .int .i64, .int .i64, .int .i64]), .k (.ro [.int .i64, .int .i64]), .k (.ro [.int .i64, .int .i64, .int .i64])], .row [.int .i64, .int .i64, .int .i64, .bool]])] [(.exit 0, [7], [(36, [(7, .nils)], []), (36, [(7, .sl 0 4)], [.row [.int .i64, .int .i64, .int .i64, .bool]])])]
end Go.Proofs.Ytgoedfonmocafaa

namespace Go.Proofs.Ytgoedfonmocafaa
open Go.Lite
noncomputable section
def G54 (ds : List D) : T (List D) := match ds with
  | [p, c, j, s, r] => .leaf [.l p.L, .l c.L, .l j.L, .i (s.I.toNat : Nat), .l r.L]
  | _ => .fail
def G98 (ds : List D) : T (List (List D)) := match ds with
  | [p, _, _, s, r] => .need (yes (manyP p.L ∧ s.I = p.L.length + 1 ∧ r.L = begR p.L)) (.leaf (yldP p.L 0 p.L.length 0))
  | _ => .fail
def G98_1 (q : Nat) (ds : List D) : T (Ex × List D) := match ds with
  | [g, p', m, i, p, c, j, s, r] => .need (yes (manyP p.L ∧ p'.L = p.L ∧ m.I = p.L.length ∧ 0 ≤ i.I ∧ i.I ≤ p.L.length ∧ s.I = p.L.length + 1 ∧ r.L = begR p.L ∧ g.L.length ≤ q))
      (.ite (decide (q < g.L.length + (p.L.length - i.I.toNat)))
        (.leaf (.ret, [.l (g.L ++ (yldP p.L i.I.toNat (p.L.length - i.I.toNat) (lenFrom p.L 0 i.I.toNat)).take (q + 1 - g.L.length)), .l p.L, .l c.L, .l j.L, .i (p.L.length + 1 : Nat), .l r.L]))
        (.leaf (.exit 0, [.l (g.L ++ yldP p.L i.I.toNat (p.L.length - i.I.toNat) (lenFrom p.L 0 i.I.toNat)), .l p.L, .l c.L, .l j.L, .i (p.L.length + 1 : Nat), .l r.L])))
  | _ => .fail
def G56 (ds : List D) : T (List D) := match ds with
  | [l] => .need (yes (l.L ≠ [] ∧ l.L.length ≤ 1073741824)) (.leaf [.i l.L.length, .l l.L])
  | _ => .fail
/-- The elements between two places the other way round, by their swaps. -/
def revL (can : List D → List D) : Nat → Nat → Nat → List (List D) → List (List D)
  | 0, _, _, r => r
  | h + 1, i, j, r => revL can h (i + 1) (j - 1) ((r.set i (can (r.getD j []))).set j (can (r.getD i [])))
def can5 (x : List D) : List D := [.i (ix x 0), .i (ix x 1), .i (ix x 2), .i (ix x 3), .i (ix x 4)]
def can2 (x : List D) : List D := [.i (ix x 0), .i (ix x 1)]
def can3 (x : List D) : List D := [.i (ix x 0), .i (ix x 1), .i (ix x 2)]
def revR (can : List D → List D) (r : List (List D)) : List (List D) := revL can (r.length / 2) 0 (r.length - 1) r
def Grev (can : List D → List D) (ds : List D) : T (List D) := match ds with
  | [n, r] => .need (yes (1 ≤ r.L.length ∧ r.L.length ≤ 2000 ∧ n.I = r.L.length)) (.leaf [.l (revR can r.L)])
  | _ => .fail
def Grev_1 (can : List D → List D) (ds : List D) : T (Ex × List D) := match ds with
  | [n, i, j, r] => .need (yes (r.L.length ≤ 2000 ∧ n.I = r.L.length ∧ 0 ≤ i.I ∧ 0 ≤ j.I ∧ j.I < r.L.length ∧ i.I ≤ j.I + 1)) (.leaf (.exit 0, [.l (revL can ((j.I - i.I + 1).toNat / 2) i.I.toNat j.I.toNat r.L)]))
  | _ => .fail
def G59 : List D → T (List D) := Grev can5
def G59_1 : List D → T (Ex × List D) := Grev_1 can5
def G60 : List D → T (List D) := Grev can2
def G60_1 : List D → T (Ex × List D) := Grev_1 can2
def G61 : List D → T (List D) := Grev can3
def G61_1 : List D → T (Ex × List D) := Grev_1 can3
def G1060 (ds : List D) : T (List D) := match ds with
  | [] => .leaf []
  | _ => .fail
def G1060_1 (ds : List D) : T (Ex × List D) := match ds with
  | [i, j] => .need (yes (j.I ≤ i.I)) (.leaf (.exit 0, []))
  | _ => .fail
def G1061 : List D → T (List D) := G1060
def G1061_1 : List D → T (Ex × List D) := G1060_1
def G22 (ds : List D) : T (List D) := match ds with
  | [p, _, _, dg, wt] => .need (yes (p.L.length ≤ 2000)) (.leaf [.l (lpL dg.I wt.B p.L)])
  | _ => .fail
def G22_3 (ds : List D) : T (Ex × List D) := match ds with
  | [z, dg, wt, i, p, _, _] => .need (yes (z.I = 0 ∧ i.I = 0 ∧ p.L.length ≤ 2000)) (.ite (decide (p.L.length = 0)) (.leaf (.exit 0, [.i 0])) (.leaf (.exit 0, [.i 1, .i p.L.length, .l (lpL dg.I wt.B p.L)])))
  | [z, dg, wt, s, i, p, _, _, r] => .need (yes (z.I = 1 ∧ p.L.length ≤ 2000 ∧ 1 ≤ i.I ∧ i.I ≤ p.L.length ∧ s.I = i.I ∧ r.L.length = i.I)) (.leaf (.exit 0, [.i 1, .i p.L.length, .l (r.L ++ lpL dg.I wt.B (p.L.drop i.I.toNat))]))
  | _ => .fail
end
end Go.Proofs.Ytgoedfonmocafaa

namespace Go.Proofs.Ytgoedfonmocafaa
open Go.Lite
noncomputable def sp54 : SpL := []
noncomputable def lp54 : LpL := []
noncomputable def sw54 : SwL := []
noncomputable def tab54 : Tab := mkTab sp54 lp54 sw54
noncomputable def sp98 : SpL := []
noncomputable def lp98 (q : Nat) : LpL := [(1, mkLY 3 l98_1 (G98_1 q))]
noncomputable def sw98 : SwL := []
noncomputable def tab98 (q : Nat) : Tab := mkTabY sp98 (lp98 q) sw98 y98 q
noncomputable def sp56 : SpL := []
noncomputable def lp56 : LpL := []
noncomputable def sw56 : SwL := []
noncomputable def tab56 : Tab := mkTab sp56 lp56 sw56
noncomputable def sp57 : SpL := []
noncomputable def lp57 : LpL := []
noncomputable def sw57 : SwL := []
noncomputable def tab57 : Tab := mkTab sp57 lp57 sw57
noncomputable def sp58 : SpL := []
noncomputable def lp58 : LpL := []
noncomputable def sw58 : SwL := []
noncomputable def tab58 : Tab := mkTab sp58 lp58 sw58
noncomputable def sp59 : SpL := []
noncomputable def lp59 : LpL := [(1, mkLK 1 l59_1 G59_1)]
noncomputable def sw59 : SwL := []
noncomputable def tab59 : Tab := mkTab sp59 lp59 sw59
noncomputable def sp60 : SpL := []
noncomputable def lp60 : LpL := [(1, mkLK 1 l60_1 G60_1)]
noncomputable def sw60 : SwL := []
noncomputable def tab60 : Tab := mkTab sp60 lp60 sw60
noncomputable def sp61 : SpL := []
noncomputable def lp61 : LpL := [(1, mkLK 1 l61_1 G61_1)]
noncomputable def sw61 : SwL := []
noncomputable def tab61 : Tab := mkTab sp61 lp61 sw61
noncomputable def sp1060 : SpL := []
noncomputable def lp1060 : LpL := [(1, mkL l1060_1 G1060_1)]
noncomputable def sw1060 : SwL := []
noncomputable def tab1060 : Tab := mkTab sp1060 lp1060 sw1060
noncomputable def sp1061 : SpL := []
noncomputable def lp1061 : LpL := [(1, mkL l1061_1 G1061_1)]
noncomputable def sw1061 : SwL := []
noncomputable def tab1061 : Tab := mkTab sp1061 lp1061 sw1061
noncomputable def sp22 : SpL := []
noncomputable def lp22 : LpL := [(3, mkL l22_3 G22_3)]
noncomputable def sw22 : SwL := []
noncomputable def tab22 : Tab := mkTab sp22 lp22 sw22
end Go.Proofs.Ytgoedfonmocafaa

namespace Go.Proofs.Ytgoedfonmocafaa
open Go.Lite
set_option linter.unusedVariables false
set_option maxRecDepth 100000
theorem t54 (a b c d e : D) : fnTW C tab54 54 s54 [a, b, c, d, e] =
  T.leaf [D.l (D.L a), D.l (D.L b), D.l (D.L c), D.i (↑(Int.toNat (D.I d)) : Int), D.l (D.L e)] := by kernel_rfl
theorem t98 (q : Nat) (a b c d e : D) : fnTY C (tab98 q) 98 s98 [a, b, c, d, e] =
  T.need (yes (manyP (D.L a) ∧ D.L a = D.L a ∧ (↑(List.length (D.L a)) : Int) = (↑(List.length (D.L a)) : Int) ∧ (0 : Int) ≤ (0 : Int) ∧ (0 : Int) ≤ (↑(List.length (D.L a)) : Int) ∧ (↑(Int.toNat (D.I d)) : Int) = (↑(List.length (D.L a)) : Int) + (1 : Int) ∧ D.L e = begR (D.L a) ∧ List.length ([] : List (List D)) ≤ q)) (T.ite (decide (q < List.length ([] : List (List D)) + (List.length (D.L a) - Int.toNat (0 : Int)))) (T.leaf ([] ++ List.take (q + 1 - List.length ([] : List (List D))) (yldP (D.L a) (Int.toNat (0 : Int)) (List.length (D.L a) - Int.toNat (0 : Int)) (lenFrom (D.L a) 0 (Int.toNat (0 : Int)))))) (T.leaf ([] ++ yldP (D.L a) (Int.toNat (0 : Int)) (List.length (D.L a) - Int.toNat (0 : Int)) (lenFrom (D.L a) 0 (Int.toNat (0 : Int)))))) := by kernel_rfl
theorem t98_1 (q : Nat) (a b c d e f g h i : D) : roundTY C (tab98 q) 98 (loopOf C.P 98 1) 3 l98_1 [a, b, c, d, e, f, g, h, i] =
  T.ite (decide (D.I d < D.I c)) (T.need (decide ((0 : Int) ≤ D.I d ∧ D.I d < (↑(List.length (D.L b)) : Int))) (T.need (decide ((0 : Int) ≤ D.I d ∧ D.I d < (↑(Int.toNat (D.I h)) : Int))) (T.need (decide (Int.toNat (D.I d) < List.length (D.L i))) (T.ite (!!List.length (D.L a) == (tab98 q).q) (T.leaf (Rd.out Ex.ret [D.l (D.L a ++ [[D.i (D.I (List.getD (List.getD (D.L i) (Int.toNat (D.I d)) []) 0 default))] ++ ([D.i (D.I (List.getD (List.getD (D.L b) (Int.toNat (D.I d)) []) 0 default))] ++ ([D.i (D.I (List.getD (List.getD (D.L b) (Int.toNat (D.I d)) []) (0 + 1) default))] ++ ([D.i (D.I (List.getD (List.getD (D.L b) (Int.toNat (D.I d)) []) (0 + 1 + 1) default))] ++ ([D.i (D.I (List.getD (List.getD (D.L b) (Int.toNat (D.I d)) []) (0 + 1 + 1 + 1) default))] ++ ([D.i (D.I (List.getD (List.getD (D.L b) (Int.toNat (D.I d)) []) (0 + 1 + 1 + 1 + 1) default))] ++ [])))) ++ []) ++ []]), D.l (D.L e), D.l (D.L f), D.l (D.L g), D.i (↑(Int.toNat (D.I h)) : Int), D.l (D.L i)])) (T.leaf (Rd.again [D.l (D.L a ++ [[D.i (D.I (List.getD (List.getD (D.L i) (Int.toNat (D.I d)) []) 0 default))] ++ ([D.i (D.I (List.getD (List.getD (D.L b) (Int.toNat (D.I d)) []) 0 default))] ++ ([D.i (D.I (List.getD (List.getD (D.L b) (Int.toNat (D.I d)) []) (0 + 1) default))] ++ ([D.i (D.I (List.getD (List.getD (D.L b) (Int.toNat (D.I d)) []) (0 + 1 + 1) default))] ++ ([D.i (D.I (List.getD (List.getD (D.L b) (Int.toNat (D.I d)) []) (0 + 1 + 1 + 1) default))] ++ ([D.i (D.I (List.getD (List.getD (D.L b) (Int.toNat (D.I d)) []) (0 + 1 + 1 + 1 + 1) default))] ++ [])))) ++ []) ++ []]), D.l (D.L b), D.i (D.I c), D.i (IntKind.wrap IntKind.i64 (D.I d + (1 : Int))), D.l (D.L e), D.l (D.L f), D.l (D.L g), D.i (↑(Int.toNat (D.I h)) : Int), D.l (D.L i)])))))) (T.leaf (Rd.out (Ex.exit 0) [D.l (D.L a), D.l (D.L e), D.l (D.L f), D.l (D.L g), D.i (↑(Int.toNat (D.I h)) : Int), D.l (D.L i)])) := by kernel_rfl
theorem t56 (a : D) : fnT C tab56 56 s56 [a] =
  T.need (!List.isEmpty (D.L a)) (T.ite (List.isEmpty (D.L a)) T.fail (T.need (decide (List.length (D.L a) ≤ 2 ^ 62 ∧ List.length (D.L a) * Try.prog.types[51].bytes ≤ 2 ^ 47)) (T.leaf [D.i (↑(List.length (D.L a)) : Int), D.l (D.L a)]))) := by kernel_rfl
theorem t57 (a : D) : fnT C tab57 57 s57 [a] =
  T.need (!List.isEmpty (D.L a)) (T.ite (List.isEmpty (D.L a)) (T.leaf [D.i (1 : Int)]) (T.need (decide (List.length (D.L a) ≤ 2 ^ 62 ∧ List.length (D.L a) * Try.prog.types[121].bytes ≤ 2 ^ 47)) (T.leaf [D.i (0 : Int), D.i (↑(List.length (D.L a)) : Int), D.l (D.L a)]))) := by kernel_rfl
theorem t58 (a : D) : fnT C tab58 58 s58 [a] =
  T.need (!List.isEmpty (D.L a)) (T.ite (List.isEmpty (D.L a)) (T.leaf [D.i (1 : Int)]) (T.need (decide (List.length (D.L a) ≤ 2 ^ 62 ∧ List.length (D.L a) * Try.prog.types[123].bytes ≤ 2 ^ 47)) (T.leaf [D.i (0 : Int), D.i (↑(List.length (D.L a)) : Int), D.l (D.L a)]))) := by kernel_rfl
theorem t59 (a b : D) : fnTW C tab59 59 s59 [a, b] =
  T.need (yes (List.length (D.L b) ≤ 2000 ∧ (↑(Int.toNat (D.I a)) : Int) = (↑(List.length (D.L b)) : Int) ∧ (0 : Int) ≤ (0 : Int) ∧ (0 : Int) ≤ IntKind.wrap IntKind.i64 ((↑(Int.toNat (D.I a)) : Int) - (1 : Int)) ∧ IntKind.wrap IntKind.i64 ((↑(Int.toNat (D.I a)) : Int) - (1 : Int)) < (↑(List.length (D.L b)) : Int) ∧ (0 : Int) ≤ IntKind.wrap IntKind.i64 ((↑(Int.toNat (D.I a)) : Int) - (1 : Int)) + (1 : Int))) (T.leaf [D.l (revL can5 (Int.toNat (IntKind.wrap IntKind.i64 ((↑(Int.toNat (D.I a)) : Int) - (1 : Int)) - (0 : Int) + (1 : Int)) / 2) (Int.toNat (0 : Int)) (Int.toNat (IntKind.wrap IntKind.i64 ((↑(Int.toNat (D.I a)) : Int) - (1 : Int)))) (D.L b))]) := by kernel_rfl
theorem t59_1 (a b c d : D) : roundTK C tab59 59 (loopOf C.P 59 1) 1 l59_1 [a, b, c, d] =
  T.ite (decide (D.I b < D.I c)) (T.need (decide ((0 : Int) ≤ D.I c ∧ D.I c < (↑(Int.toNat (D.I a)) : Int))) (T.need (decide (Int.toNat (D.I c) < List.length (D.L d))) (T.need (decide ((0 : Int) ≤ D.I b ∧ D.I b < (↑(Int.toNat (D.I a)) : Int))) (T.need (decide (Int.toNat (D.I b) < List.length (D.L d))) (T.need (decide ((0 : Int) ≤ D.I b ∧ D.I b < (↑(Int.toNat (D.I a)) : Int))) (T.need (decide (Int.toNat (D.I b) < List.length (D.L d))) (T.need (decide ((0 : Int) ≤ D.I c ∧ D.I c < (↑(Int.toNat (D.I a)) : Int))) (T.need (decide (Int.toNat (D.I c) < List.length (List.set (D.L d) (Int.toNat (D.I b)) (updC (List.getD (D.L d) (Int.toNat (D.I b)) []) [D.i (D.I (List.getD (List.getD (D.L d) (Int.toNat (D.I c)) []) 0 default)), D.i (D.I (List.getD (List.getD (D.L d) (Int.toNat (D.I c)) []) (0 + 1) default)), D.i (D.I (List.getD (List.getD (D.L d) (Int.toNat (D.I c)) []) (0 + 1 + 1) default)), D.i (D.I (List.getD (List.getD (D.L d) (Int.toNat (D.I c)) []) (0 + 1 + 1 + 1) default)), D.i (D.I (List.getD (List.getD (D.L d) (Int.toNat (D.I c)) []) (0 + 1 + 1 + 1 + 1) default))] 0 0 (List.length [K.int IntKind.i64, K.int IntKind.i64, K.int IntKind.i64, K.int IntKind.i64, K.int IntKind.i64]))))) (T.leaf (Rd.again [D.i (↑(Int.toNat (D.I a)) : Int), D.i (IntKind.wrap IntKind.i64 (D.I b + (1 : Int))), D.i (IntKind.wrap IntKind.i64 (D.I c - (1 : Int))), D.l (List.set (List.set (D.L d) (Int.toNat (D.I b)) (updC (List.getD (D.L d) (Int.toNat (D.I b)) []) [D.i (D.I (List.getD (List.getD (D.L d) (Int.toNat (D.I c)) []) 0 default)), D.i (D.I (List.getD (List.getD (D.L d) (Int.toNat (D.I c)) []) (0 + 1) default)), D.i (D.I (List.getD (List.getD (D.L d) (Int.toNat (D.I c)) []) (0 + 1 + 1) default)), D.i (D.I (List.getD (List.getD (D.L d) (Int.toNat (D.I c)) []) (0 + 1 + 1 + 1) default)), D.i (D.I (List.getD (List.getD (D.L d) (Int.toNat (D.I c)) []) (0 + 1 + 1 + 1 + 1) default))] 0 0 (List.length [K.int IntKind.i64, K.int IntKind.i64, K.int IntKind.i64, K.int IntKind.i64, K.int IntKind.i64]))) (Int.toNat (D.I c)) (updC (List.getD (List.set (D.L d) (Int.toNat (D.I b)) (updC (List.getD (D.L d) (Int.toNat (D.I b)) []) [D.i (D.I (List.getD (List.getD (D.L d) (Int.toNat (D.I c)) []) 0 default)), D.i (D.I (List.getD (List.getD (D.L d) (Int.toNat (D.I c)) []) (0 + 1) default)), D.i (D.I (List.getD (List.getD (D.L d) (Int.toNat (D.I c)) []) (0 + 1 + 1) default)), D.i (D.I (List.getD (List.getD (D.L d) (Int.toNat (D.I c)) []) (0 + 1 + 1 + 1) default)), D.i (D.I (List.getD (List.getD (D.L d) (Int.toNat (D.I c)) []) (0 + 1 + 1 + 1 + 1) default))] 0 0 (List.length [K.int IntKind.i64, K.int IntKind.i64, K.int IntKind.i64, K.int IntKind.i64, K.int IntKind.i64]))) (Int.toNat (D.I c)) []) [D.i (D.I (List.getD (List.getD (D.L d) (Int.toNat (D.I b)) []) 0 default)), D.i (D.I (List.getD (List.getD (D.L d) (Int.toNat (D.I b)) []) (0 + 1) default)), D.i (D.I (List.getD (List.getD (D.L d) (Int.toNat (D.I b)) []) (0 + 1 + 1) default)), D.i (D.I (List.getD (List.getD (D.L d) (Int.toNat (D.I b)) []) (0 + 1 + 1 + 1) default)), D.i (D.I (List.getD (List.getD (D.L d) (Int.toNat (D.I b)) []) (0 + 1 + 1 + 1 + 1) default))] 0 0 (List.length [K.int IntKind.i64, K.int IntKind.i64, K.int IntKind.i64, K.int IntKind.i64, K.int IntKind.i64])))])))))))))) (T.leaf (Rd.out (Ex.exit 0) [D.l (D.L d)])) := by kernel_rfl
theorem t60 (a b : D) : fnTW C tab60 60 s60 [a, b] =
  T.need (yes (List.length (D.L b) ≤ 2000 ∧ (↑(Int.toNat (D.I a)) : Int) = (↑(List.length (D.L b)) : Int) ∧ (0 : Int) ≤ (0 : Int) ∧ (0 : Int) ≤ IntKind.wrap IntKind.i64 ((↑(Int.toNat (D.I a)) : Int) - (1 : Int)) ∧ IntKind.wrap IntKind.i64 ((↑(Int.toNat (D.I a)) : Int) - (1 : Int)) < (↑(List.length (D.L b)) : Int) ∧ (0 : Int) ≤ IntKind.wrap IntKind.i64 ((↑(Int.toNat (D.I a)) : Int) - (1 : Int)) + (1 : Int))) (T.leaf [D.l (revL can2 (Int.toNat (IntKind.wrap IntKind.i64 ((↑(Int.toNat (D.I a)) : Int) - (1 : Int)) - (0 : Int) + (1 : Int)) / 2) (Int.toNat (0 : Int)) (Int.toNat (IntKind.wrap IntKind.i64 ((↑(Int.toNat (D.I a)) : Int) - (1 : Int)))) (D.L b))]) := by kernel_rfl
theorem t60_1 (a b c d : D) : roundTK C tab60 60 (loopOf C.P 60 1) 1 l60_1 [a, b, c, d] =
  T.ite (decide (D.I b < D.I c)) (T.need (decide ((0 : Int) ≤ D.I c ∧ D.I c < (↑(Int.toNat (D.I a)) : Int))) (T.need (decide (Int.toNat (D.I c) < List.length (D.L d))) (T.need (decide ((0 : Int) ≤ D.I b ∧ D.I b < (↑(Int.toNat (D.I a)) : Int))) (T.need (decide (Int.toNat (D.I b) < List.length (D.L d))) (T.need (decide ((0 : Int) ≤ D.I b ∧ D.I b < (↑(Int.toNat (D.I a)) : Int))) (T.need (decide (Int.toNat (D.I b) < List.length (D.L d))) (T.need (decide ((0 : Int) ≤ D.I c ∧ D.I c < (↑(Int.toNat (D.I a)) : Int))) (T.need (decide (Int.toNat (D.I c) < List.length (List.set (D.L d) (Int.toNat (D.I b)) (updC (List.getD (D.L d) (Int.toNat (D.I b)) []) [D.i (D.I (List.getD (List.getD (D.L d) (Int.toNat (D.I c)) []) 0 default)), D.i (D.I (List.getD (List.getD (D.L d) (Int.toNat (D.I c)) []) (0 + 1) default))] 0 0 (List.length [K.int IntKind.i64, K.int IntKind.i64]))))) (T.leaf (Rd.again [D.i (↑(Int.toNat (D.I a)) : Int), D.i (IntKind.wrap IntKind.i64 (D.I b + (1 : Int))), D.i (IntKind.wrap IntKind.i64 (D.I c - (1 : Int))), D.l (List.set (List.set (D.L d) (Int.toNat (D.I b)) (updC (List.getD (D.L d) (Int.toNat (D.I b)) []) [D.i (D.I (List.getD (List.getD (D.L d) (Int.toNat (D.I c)) []) 0 default)), D.i (D.I (List.getD (List.getD (D.L d) (Int.toNat (D.I c)) []) (0 + 1) default))] 0 0 (List.length [K.int IntKind.i64, K.int IntKind.i64]))) (Int.toNat (D.I c)) (updC (List.getD (List.set (D.L d) (Int.toNat (D.I b)) (updC (List.getD (D.L d) (Int.toNat (D.I b)) []) [D.i (D.I (List.getD (List.getD (D.L d) (Int.toNat (D.I c)) []) 0 default)), D.i (D.I (List.getD (List.getD (D.L d) (Int.toNat (D.I c)) []) (0 + 1) default))] 0 0 (List.length [K.int IntKind.i64, K.int IntKind.i64]))) (Int.toNat (D.I c)) []) [D.i (D.I (List.getD (List.getD (D.L d) (Int.toNat (D.I b)) []) 0 default)), D.i (D.I (List.getD (List.getD (D.L d) (Int.toNat (D.I b)) []) (0 + 1) default))] 0 0 (List.length [K.int IntKind.i64, K.int IntKind.i64])))])))))))))) (T.leaf (Rd.out (Ex.exit 0) [D.l (D.L d)])) := by kernel_rfl
theorem t61 (a b : D) : fnTW C tab61 61 s61 [a, b] =
  T.need (yes (List.length (D.L b) ≤ 2000 ∧ (↑(Int.toNat (D.I a)) : Int) = (↑(List.length (D.L b)) : Int) ∧ (0 : Int) ≤ (0 : Int) ∧ (0 : Int) ≤ IntKind.wrap IntKind.i64 ((↑(Int.toNat (D.I a)) : Int) - (1 : Int)) ∧ IntKind.wrap IntKind.i64 ((↑(Int.toNat (D.I a)) : Int) - (1 : Int)) < (↑(List.length (D.L b)) : Int) ∧ (0 : Int) ≤ IntKind.wrap IntKind.i64 ((↑(Int.toNat (D.I a)) : Int) - (1 : Int)) + (1 : Int))) (T.leaf [D.l (revL can3 (Int.toNat (IntKind.wrap IntKind.i64 ((↑(Int.toNat (D.I a)) : Int) - (1 : Int)) - (0 : Int) + (1 : Int)) / 2) (Int.toNat (0 : Int)) (Int.toNat (IntKind.wrap IntKind.i64 ((↑(Int.toNat (D.I a)) : Int) - (1 : Int)))) (D.L b))]) := by kernel_rfl
theorem t61_1 (a b c d : D) : roundTK C tab61 61 (loopOf C.P 61 1) 1 l61_1 [a, b, c, d] =
  T.ite (decide (D.I b < D.I c)) (T.need (decide ((0 : Int) ≤ D.I c ∧ D.I c < (↑(Int.toNat (D.I a)) : Int))) (T.need (decide (Int.toNat (D.I c) < List.length (D.L d))) (T.need (decide ((0 : Int) ≤ D.I b ∧ D.I b < (↑(Int.toNat (D.I a)) : Int))) (T.need (decide (Int.toNat (D.I b) < List.length (D.L d))) (T.need (decide ((0 : Int) ≤ D.I b ∧ D.I b < (↑(Int.toNat (D.I a)) : Int))) (T.need (decide (Int.toNat (D.I b) < List.length (D.L d))) (T.need (decide ((0 : Int) ≤ D.I c ∧ D.I c < (↑(Int.toNat (D.I a)) : Int))) (T.need (decide (Int.toNat (D.I c) < List.length (List.set (D.L d) (Int.toNat (D.I b)) (updC (List.getD (D.L d) (Int.toNat (D.I b)) []) [D.i (D.I (List.getD (List.getD (D.L d) (Int.toNat (D.I c)) []) 0 default)), D.i (D.I (List.getD (List.getD (D.L d) (Int.toNat (D.I c)) []) (0 + 1) default)), D.i (D.I (List.getD (List.getD (D.L d) (Int.toNat (D.I c)) []) (0 + 1 + 1) default))] 0 0 (List.length [K.int IntKind.i64, K.int IntKind.i64, K.int IntKind.i64]))))) (T.leaf (Rd.again [D.i (↑(Int.toNat (D.I a)) : Int), D.i (IntKind.wrap IntKind.i64 (D.I b + (1 : Int))), D.i (IntKind.wrap IntKind.i64 (D.I c - (1 : Int))), D.l (List.set (List.set (D.L d) (Int.toNat (D.I b)) (updC (List.getD (D.L d) (Int.toNat (D.I b)) []) [D.i (D.I (List.getD (List.getD (D.L d) (Int.toNat (D.I c)) []) 0 default)), D.i (D.I (List.getD (List.getD (D.L d) (Int.toNat (D.I c)) []) (0 + 1) default)), D.i (D.I (List.getD (List.getD (D.L d) (Int.toNat (D.I c)) []) (0 + 1 + 1) default))] 0 0 (List.length [K.int IntKind.i64, K.int IntKind.i64, K.int IntKind.i64]))) (Int.toNat (D.I c)) (updC (List.getD (List.set (D.L d) (Int.toNat (D.I b)) (updC (List.getD (D.L d) (Int.toNat (D.I b)) []) [D.i (D.I (List.getD (List.getD (D.L d) (Int.toNat (D.I c)) []) 0 default)), D.i (D.I (List.getD (List.getD (D.L d) (Int.toNat (D.I c)) []) (0 + 1) default)), D.i (D.I (List.getD (List.getD (D.L d) (Int.toNat (D.I c)) []) (0 + 1 + 1) default))] 0 0 (List.length [K.int IntKind.i64, K.int IntKind.i64, K.int IntKind.i64]))) (Int.toNat (D.I c)) []) [D.i (D.I (List.getD (List.getD (D.L d) (Int.toNat (D.I b)) []) 0 default)), D.i (D.I (List.getD (List.getD (D.L d) (Int.toNat (D.I b)) []) (0 + 1) default)), D.i (D.I (List.getD (List.getD (D.L d) (Int.toNat (D.I b)) []) (0 + 1 + 1) default))] 0 0 (List.length [K.int IntKind.i64, K.int IntKind.i64, K.int IntKind.i64])))])))))))))) (T.leaf (Rd.out (Ex.exit 0) [D.l (D.L d)])) := by kernel_rfl
theorem t1060 : fnTW C tab1060 60 s1060 [] =
  T.need (yes (IntKind.wrap IntKind.i64 ((↑0 : Int) - (1 : Int)) ≤ (0 : Int))) (T.leaf []) := by kernel_rfl
theorem t1060_1 (a b : D) : roundT C tab1060 60 (loopOf C.P 60 1) l1060_1 [a, b] =
  T.ite (decide (D.I a < D.I b)) T.fail (T.leaf (Rd.out (Ex.exit 0) [])) := by kernel_rfl
theorem t1061 : fnTW C tab1061 61 s1061 [] =
  T.need (yes (IntKind.wrap IntKind.i64 ((↑0 : Int) - (1 : Int)) ≤ (0 : Int))) (T.leaf []) := by kernel_rfl
theorem t1061_1 (a b : D) : roundT C tab1061 61 (loopOf C.P 61 1) l1061_1 [a, b] =
  T.ite (decide (D.I a < D.I b)) T.fail (T.leaf (Rd.out (Ex.exit 0) [])) := by kernel_rfl
theorem t22 (a b c d e : D) : fnT C tab22 22 s22 [a, b, c, d, e] =
  T.need (yes ((↑0 : Int) = (0 : Int) ∧ (0 : Int) = (0 : Int) ∧ List.length (D.L a) ≤ 2000)) (T.ite (decide (List.length (D.L a) = 0)) (T.leaf [D.l []]) (T.need (decide (Int.toNat (↑(List.length (D.L a)) : Int) ≤ List.length (lpL (D.I d) (D.B e) (D.L a)))) (T.leaf [D.l (List.take (Int.toNat (↑(List.length (D.L a)) : Int)) (lpL (D.I d) (D.B e) (D.L a)))]))) := by kernel_rfl
theorem t22_3_0 (a b c d e f : D) : roundT C tab22 22 (loopOf C.P 22 3) l22_3 [.i 0, a, b, c, d, e, f] =
  T.ite (decide (D.I c < (↑(List.length (D.L d)) : Int))) (T.need (decide ((0 : Int) ≤ D.I c ∧ D.I c < (↑(List.length (D.L d)) : Int))) (T.need (decide ((0 : Int) ≤ D.I c ∧ D.I c < (↑(List.length (D.L d)) : Int))) (T.need true (T.ite false (T.leaf (Rd.again [D.i (0 : Int), D.i (D.I a), D.b (D.B b), D.i (IntKind.wrap IntKind.i64 (D.I c + (1 : Int))), D.l (D.L d), D.l (D.L e), D.l (D.L f)])) (T.need true (T.leaf (Rd.again [D.i (1 : Int), D.i (D.I a), D.b (D.B b), D.i (1 : Int), D.i (IntKind.wrap IntKind.i64 (D.I c + (1 : Int))), D.l (D.L d), D.l (D.L e), D.l (D.L f), D.l [[D.i (IntKind.wrap IntKind.i64 (D.I (List.getD (List.getD (D.L d) (Int.toNat (D.I c)) []) (0 + 1 + 1 + 1 + 1) default) - (1 : Int))), D.i (D.I (List.getD (List.getD (D.L d) (Int.toNat (D.I c)) []) 0 default)), D.i (D.I a), D.b (D.B b)]]]))))))) (T.leaf (Rd.out (Ex.exit 0) [D.i (0 : Int)])) := by kernel_rfl
theorem t22_3_1 (a b c d e f g h : D) : roundT C tab22 22 (loopOf C.P 22 3) l22_3 [.i 1, a, b, c, d, e, f, g, h] =
  T.ite (decide (D.I d < (↑(List.length (D.L e)) : Int))) (T.need (decide ((0 : Int) ≤ D.I d ∧ D.I d < (↑(List.length (D.L e)) : Int))) (T.need (decide ((0 : Int) ≤ D.I d ∧ D.I d < (↑(List.length (D.L e)) : Int))) (T.need true (T.ite false (T.leaf (Rd.again [D.i (1 : Int), D.i (D.I a), D.b (D.B b), D.i (↑(Int.toNat (D.I c)) : Int), D.i (IntKind.wrap IntKind.i64 (D.I d + (1 : Int))), D.l (D.L e), D.l (D.L f), D.l (D.L g), D.l (D.L h)])) (T.need (decide (Int.toNat (D.I c) ≤ List.length (D.L h) ∧ Int.toNat (D.I c) + 1 ≤ 2 ^ 62 ∧ (Int.toNat (D.I c) + 1) * Try.prog.types[135].bytes ≤ 2 ^ 47)) (T.leaf (Rd.again [D.i (1 : Int), D.i (D.I a), D.b (D.B b), D.i (↑(Int.toNat (D.I c) + 1) : Int), D.i (IntKind.wrap IntKind.i64 (D.I d + (1 : Int))), D.l (D.L e), D.l (D.L f), D.l (D.L g), D.l (List.take (Int.toNat (D.I c)) (D.L h) ++ List.take (List.length [[D.i (IntKind.wrap IntKind.i64 (D.I (List.getD (List.getD (D.L e) (Int.toNat (D.I d)) []) (0 + 1 + 1 + 1 + 1) default) - (1 : Int))), D.i (D.I (List.getD (List.getD (D.L e) (Int.toNat (D.I d)) []) 0 default)), D.i (D.I a), D.b (D.B b)]]) [[D.i (IntKind.wrap IntKind.i64 (D.I (List.getD (List.getD (D.L e) (Int.toNat (D.I d)) []) (0 + 1 + 1 + 1 + 1) default) - (1 : Int))), D.i (D.I (List.getD (List.getD (D.L e) (Int.toNat (D.I d)) []) 0 default)), D.i (D.I a), D.b (D.B b)]])]))))))) (T.leaf (Rd.out (Ex.exit 0) [D.i (1 : Int), D.i (↑(Int.toNat (D.I c)) : Int), D.l (D.L h)])) := by kernel_rfl
end Go.Proofs.Ytgoedfonmocafaa

namespace Go.Lite
theorem rangeS_ok0 {C : Cfg} (hC : ∀ t Y, C.ty t = some Y → tyOf C.P t = some Y) {tab : Tab} {n : Nat} (hS : SpOK C tab n) {f : FuncId} {r : Rg} {k : Nat} {live : List Nat} {head : List Shp} {Y : YS}
    (hYok : YOK Y) (hla : ∀ kk, LoopsOKK C tab n kk f r.2.2.1) (hlb : ∀ kk, LoopsOKK C tab n kk f r.2.2.2) (hann : C.ann f (keyOf r.2.2.2) = some live) (hgive : C.give f (keyOf r.2.2.2) = Y.give) {it : ItL} (hIt : AllOKI C n Y it) {G : List (List D) → List D → T (Ex × List D)}
    (hG : ∀ L ds rr, (G L ds).run = some rr → FoldR (fun ds el => (roundRT C tab f r k ((headA head ds).h.length + (Y.head el).2.length) live head Y ds el).run) Y.give (fun a b => headA head a = headA head b) ds L rr.1 rr.2) : CodeSim C n k f r.code tab.y tab.q (rangeS k live r.1 it head G) := by
  intro σ e σ' h
  unfold rangeS at h
  split at h
  · cases h
  rename_i hlog
  split at h
  case h_2 => cases h
  rename_i gf a cp hev
  generalize hms : reachS (sget (normS k live σ).h) wide ((a ++ cp).flatMap (idsS deep)) [] = ms at h
  dsimp only at h
  split at h
  case h_2 => cases h
  rename_i F ds hF hfit
  rw [T.run_bind, Option.bind_eq_some_iff] at h
  obtain ⟨L, hL, h⟩ := h
  rw [T.run_bind, Option.bind_eq_some_iff] at h
  obtain ⟨rr, hr0, h⟩ := h
  cases h
  refine ⟨by rw [hlog]; exact List.nil_prefix, ?_⟩
  intro τ hr S H P Lg _ _ s hs
  have hgc : gcOf C k f r.2.2.2 = norm k live := by unfold gcOf; rw [hann]
  have h1 : SSR (normS k live σ) (norm k live τ) := norm_sim hr
  have hv := evS_sim h1.1 r.1
  rw [hev] at hv
  simp only [VR] at hv
  obtain ⟨a', c', hv, ha, hcp⟩ := hv
  have hreach : reach (hget (norm k live τ).h) wide ((a' ++ c').flatMap (ids deep)) [] = ms := by
    rw [← hms, ids_eqs (VRL_append ha hcp)]
    exact reach_eq h1.2.2 _ _ _
  have h2 := fitsA_sim hfit (norm_sim (k := k) (live := live) (τ := { tmps := (norm k live τ).tmps, h := hups (norm k live τ).h (ms.map fun i => (i, none)) }) ⟨h1.1, HR.ups h1.2 (UR_kills ms)⟩)
  have hargs : VRL (a.map (mvS true false (pos ms) deep) ++ [.yl] ++ cp.map (mvS true false (pos ms) deep)) (a'.map (mv true false (pos ms) deep) ++ [.yl] ++ c'.map (mv true false (pos ms) deep)) :=
    VRL_append (VRL_append (VRL_map (mv_sim true false _ deep) ha) (VRL_cons (by simp only [VR]) VRL_nil)) (VRL_map (mv_sim true false _ deep) hcp)
  have hheap : HR (ms.map fun i => (sget (normS k live σ).h i).map (mvSB true false (pos ms))) (ms.map fun i => (hget (norm k live τ).h i).map (mvB true false (pos ms))) := HR.maps _ fun i _ => OR.map (h1.2.2 i) _
  obtain ⟨q, Q, q1, q2, qp, q3⟩ := fold_sim (head := head) (Y := Y) (s := s) (Hf := roundH r.2.1 (norm k live) Y.give (fun kk => execA C (callA C n) f kk H r.2.2.1) (fun kk => execA C (callA C n) f kk H r.2.2.2))
    (fun ds el x' o hR hx τ hτ ya yh hya hyh => round_sim hC hS hYok (hla _) (hlb _) hR hx hτ hya hyh H s) (fun hR => roundRT_np hR) (hG L ds rr hr0)
  obtain ⟨v', h', s', hcall, hvp, hQ⟩ := allOKI_get hIt gf F hF _ _ L hL _ _ hargs hheap _ _ Q q q2 _ (q1 _ h2)
  obtain ⟨τ', rfl, hτ'⟩ := q3 _ hQ
  refine ⟨τ', s, ?_, by rw [headA_log]; rw [hlog] at hs; exact hs, hτ'⟩
  unfold Rg.code
  simp only [execA, hgc, hgive, hv, hreach, hcall, hvp]
  cases he : rr.1 with
  | pan t => rw [he] at qp; cases qp
  | _ => rfl
theorem range_of0 {C : Cfg} (hC : ∀ t Y, C.ty t = some Y → tyOf C.P t = some Y) {sp : SpL} {sw : SwL} {n : Nat} {f : FuncId} {lp rg : LpL} {Y : YS} (hY : YOK Y) (hsp : AllOK C n sp) (hsw : AllOKW C n sw) (k m : Nat) (h1 : (loopsIn (rangeOf C.P f k).2.2.2).isEmpty = true ∧ rangesIn (rangeOf C.P f k).2.2.2 = []) (h4 : (loopsIn (rangeOf C.P f k).2.2.1).isEmpty = true ∧ rangesIn (rangeOf C.P f k).2.2.1 = [])
    {live : List Nat} (hann : C.ann f (keyOf (rangeOf C.P f k).2.2.2) = some live) (hgive : C.give f (keyOf (rangeOf C.P f k).2.2.2) = Y.give) {it : ItL} (hIt : AllOKI C n Y it) {head : List Shp} {G : List (List D) → List D → T (Ex × List D)}
    (hG : ∀ L ds rr, (G L ds).run = some rr → FoldR (fun ds el => (roundRT C (mkTabR sp lp sw rg) f (rangeOf C.P f k) m ((headA head ds).h.length + (Y.head el).2.length) live head Y ds el).run) Y.give (fun a b => headA head a = headA head b) ds L rr.1 rr.2) : CodeSim C n m f (rangeOf C.P f k).code none 0 (rangeS m live (rangeOf C.P f k).1 it head G) :=
  rangeS_ok0 hC (tab := mkTabR sp lp sw rg) (spOK_ofR hsp hsw) hY (fun _ => loops_ofG (lp := lp) (rg := rg) rfl rfl [] [] (List.isEmpty_iff.1 h4.1) rfl (fun k hk => by cases hk) h4.2 rfl (fun k hk => by cases hk))
    (fun _ => loops_ofG (lp := lp) (rg := rg) rfl rfl [] [] (List.isEmpty_iff.1 h1.1) rfl (fun k hk => by cases hk) h1.2 rfl (fun k hk => by cases hk)) hann hgive hIt hG
end Go.Lite

namespace Go.Proofs.Ytgoedfonmocafaa
open Go.Lite
set_option maxRecDepth 100000
theorem roundTK_head {C : Cfg} {tab : Tab} {f : FuncId} {b : Code} {k : Nat} {s : LSig} {j : D} {n : Int} {r : List D} (h : j.I = n) (hs : 2 ≤ s.head.length) : roundTK C tab f b k s (j :: r) = roundTK C tab f b k s (.i n :: r) := by
  obtain ⟨live, head, exits⟩ := s
  match head, hs with
  | a :: b :: c, _ => simp only [roundTK, roundTG, headL, headA, List.headD_cons, List.tail_cons, I_i, h]
theorem headA_head {hs : List Shp} {j : D} {n : Int} (r : List D) (h : j.I = n) (hl : 2 ≤ hs.length) : headA hs (j :: r) = headA hs (.i n :: r) := by
  match hs, hl with
  | a :: b :: c, _ => simp only [headA, List.headD_cons, List.tail_cons, I_i, h]
theorem roundRT_head {C : Cfg} {tab : Tab} {f : FuncId} {r : Rg} {k kk : Nat} {live : List Nat} {hs : List Shp} {Y : YS} {j : D} {n : Int} (ds el : List D) (h : j.I = n) (hl : 2 ≤ hs.length) : roundRT C tab f r k kk live hs Y (j :: ds) el = roundRT C tab f r k kk live hs Y (.i n :: ds) el := by
  unfold roundRT
  rw [headA_head ds h hl]
theorem bytes3 : Try.prog.types[3].bytes = 8 := by kernel_rfl
theorem begs_step {p : List (List D)} {k : Nat} (hk : k < p.length) (n : Int) : begs p k (p.length - k) n = [D.i n] :: begs p (k + 1) (p.length - (k + 1)) (n + ix (p.getD k []) 0) := by
  rw [show p.length - k = (p.length - (k + 1)) + 1 by omega]
  rfl
theorem lenFrom_step {p : List (List D)} {k : Nat} (hk : k < p.length) : lenFrom p k (p.length - k) = ix (p.getD k []) 0 + lenFrom p (k + 1) (p.length - (k + 1)) := by
  rw [show p.length - k = (p.length - (k + 1)) + 1 by omega]
  rfl
theorem ok52_4 (n : Nat) : LoopSim C (n + 1) 52 (loopOf C.P 52 4) (mkL l52_4 G52_4) := by
  refine loop_ofK hC (sp := sp52) (lp := lp52) (sw := sw52) trivial trivial 0 [] (by kernel_rfl) rfl (fun k hk => by cases hk) (by kernel_rfl) (fun ds => ((ds.getD 3 default).I - (ds.getD 4 default).I).toNat) fun ds rr h => ?_
  unfold G52_4 at h
  split at h
  · rename_i z n q m i p c j
    obtain ⟨hp, h⟩ := need_some h
    rw [yes_iff] at hp
    obtain ⟨hz, h1, h2, h3, h4, hm⟩ := hp
    obtain ⟨m1, m2, m3⟩ := id hm
    refine ⟨by rw [fuelC]; simp; omega, ?_⟩
    rw [roundTK_head (j := z) (n := 0) hz (by decide), show roundTK C (mkTab sp52 lp52 sw52) 52 (loopOf C.P 52 4) 0 l52_4 [.i 0, n, q, m, i, p, c, j] = _ from t52_4_0 n q m i p c j]
    have hb := lenFrom_bound (l := p.L) 1 0 fun y a b => (allFrom_iff.1 m3) y (Nat.zero_le _) (by omega)
    simp only [lenFrom, Int.add_zero] at hb
    simp only [h1, h2, h3, h4, Int.toNat_zero, ix_def] at h ⊢
    have hx : lenR p.L = _ := lenFrom_step (p := p.L) (k := 0) (by omega)
    have hy := begs_step (p := p.L) (k := 0) (by omega) 0
    rw [Nat.sub_zero, Int.zero_add] at hy
    rw [hx, hy] at h
    have w1 : IntKind.i64.wrap ((0 : Int) + 1) = 1 := by decide
    have w2 : IntKind.i64.wrap (0 + ix (p.L.getD 0 []) 0) = ix (p.L.getD 0 []) 0 := by rw [Int.zero_add]; exact wrap_id (by omega) (by omega)
    rw [w1, w2]
    refine rd_pos (by omega) (rd_dec (by omega) (rd_need rfl (rd_false rfl (rd_need rfl (rd_again ((need_yes ⟨rfl, rfl, rfl, by simp only [I_i]; omega, by simp only [I_i]; omega, hm, rfl, rfl, by simp only [I_i]; omega, by simp only [I_i]; omega⟩).trans ?_) (show ((p.L.length : Int) - 1).toNat < (m.I - i.I).toNat by omega))))))
    rw [← h]
    rfl
  · rename_i z n q m i p c j s r
    obtain ⟨hp, h⟩ := need_some h
    rw [yes_iff] at hp
    obtain ⟨hz, h1, h2, h3, h4, hm, h5, h6, h7, h8⟩ := hp
    obtain ⟨m1, m2, m3⟩ := id hm
    refine ⟨by rw [fuelC]; simp; omega, ?_⟩
    rw [roundTK_head (j := z) (n := 1) hz (by decide), show roundTK C (mkTab sp52 lp52 sw52) 52 (loopOf C.P 52 4) 0 l52_4 [.i 1, n, q, m, i, p, c, j, s, r] = _ from t52_4_1 n q m i p c j s r]
    obtain ⟨k, hk⟩ : ∃ k : Nat, i.I = k := ⟨i.I.toNat, by omega⟩
    have hrl : r.L.length = k := by omega
    have htk : r.L.take k = r.L := List.take_of_length_le (by omega)
    simp only [h1, h2, h5, hk, Int.toNat_natCast, ix_def, htk, bytes3, List.length_cons, List.length_nil, show (0 : Nat) + 1 = 1 from rfl, show ∀ (x : List D), List.take 1 [x] = [x] from fun _ => rfl] at h h3 h4 h7 h8 ⊢
    refine rd_if (fun hlt => ?_) fun hge => rd_out ?_
    · have hlt : k < p.L.length := by omega
      have hb := lenFrom_bound (l := p.L) 1 k fun y a b => (allFrom_iff.1 m3) y (Nat.zero_le _) (by omega)
      simp only [lenFrom] at hb
      rw [begs_step hlt, lenFrom_step hlt] at h
      rw [wrap_succ (by omega), wrap_id (x := n.I + ix (p.L.getD k []) 0) (by omega) (by omega)]
      refine rd_dec (by omega) (rd_need rfl (rd_false rfl (rd_dec (by omega) (rd_again ((need_yes ⟨rfl, by simp only [L_l], by simp only [I_i, L_l], by simp only [I_i]; omega, by simp only [I_i]; omega, hm, by simp only [I_i], by simp only [I_i, L_l, List.length_append, List.length_cons, List.length_nil]; omega, by simp only [I_i]; omega, by simp only [I_i]; omega⟩).trans ?_) (show ((p.L.length : Int) - ((k + 1 : Nat) : Int)).toNat < (m.I - i.I).toNat by omega)))))
      rw [← h]
      simp only [run_leaf, L_l, I_i, Int.toNat_natCast, List.append_assoc, List.cons_append, List.nil_append, Int.add_assoc]
    · rw [← h]
      rw [show p.L.length - k = 0 by omega]
      have : k = p.L.length := by omega
      simp only [begs, lenFrom, List.append_nil, Int.add_zero, run_leaf, this]
  · cases h
theorem ok52 (n : Nat) : FnOKW C (n + 2) 52 (mkFW s52 G52) := by
  refine fn_ofW hC (sp := sp52) (lp := lp52) (sw := sw52) trivial trivial (by kernel_rfl) [4] (by kernel_rfl) (by kernel_rfl) (fun k hk L hL => by simp at hk; subst hk; cases hL; exact ok52_4 n) fun ds rr h => ?_
  unfold G52 at h
  split at h
  · rename_i p c j
    obtain ⟨hm, h⟩ := need_some h
    rw [yes_iff] at hm
    refine (congrArg T.run (t52 p c j)).trans ?_
    have hl : (begs p.L 0 p.L.length 0).length = p.L.length := begs_length _ _ _ _
    have htk : (begs p.L 0 p.L.length 0).take p.L.length = begs p.L 0 p.L.length 0 := List.take_of_length_le (by omega)
    obtain ⟨m1, m2, m3⟩ := id hm
    simp only [Int.toNat_natCast, hl, htk, bytes3]
    refine go_yes ⟨by trivial, by trivial, by trivial, by trivial, by trivial, hm⟩ (go_need rfl (go_false rfl (go_dec (by omega) ?_)))
    rw [← h]
    rfl
  · cases h
theorem ok54 (n : Nat) : FnOKW C (n + 1) 54 (mkFW s54 G54) := by
  refine fn_ofW hC (sp := sp54) (lp := lp54) (sw := sw54) trivial trivial (by kernel_rfl) [] (by kernel_rfl) rfl (fun k hk => by cases hk) fun ds rr h => ?_
  unfold G54 at h
  split at h
  · rename_i p c j s r
    exact (congrArg T.run (t54 p c j s r)).trans h
  · cases h
theorem begs_get (l : List (List D)) : ∀ (k i q : Nat) (n : Int), q < k → (begs l i k n).getD q [] = [D.i (n + lenFrom l i q)]
  | k + 1, i, 0, n, _ => by simp [begs, lenFrom]
  | k + 1, i, q + 1, n, h => by
    have := begs_get l k (i + 1) q (n + ix (l.getD i []) 0) (by omega)
    simp only [begs, List.getD_cons_succ, lenFrom, this, Int.add_assoc]
theorem begR_get {l : List (List D)} {q : Nat} (h : q ≤ l.length) : ix ((begR l).getD q []) 0 = lenFrom l 0 q := by
  unfold begR
  rw [List.getD_eq_getElem?_getD, List.getElem?_append]
  split
  · rename_i hq
    rw [begs_length] at hq
    rw [← List.getD_eq_getElem?_getD, begs_get _ _ _ _ _ hq]
    simp [ix, D.I]
  · rename_i hq
    rw [begs_length] at hq ⊢
    rw [show q = l.length by omega]
    simp [ix, lenR, D.I]
theorem yldP_step {p : List (List D)} {k : Nat} (hk : k < p.length) (n : Int) : yldP p k (p.length - k) n = [.i n, .i (ix (p.getD k []) 0), .i (ix (p.getD k []) 1), .i (ix (p.getD k []) 2), .i (ix (p.getD k []) 3), .i (ix (p.getD k []) 4)] :: yldP p (k + 1) (p.length - (k + 1)) (n + ix (p.getD k []) 0) := by
  rw [show p.length - k = (p.length - (k + 1)) + 1 by omega]
  rfl
theorem yldP_length (l : List (List D)) : ∀ (k i : Nat) (n : Int), (yldP l i k n).length = k
  | 0, _, _ => rfl
  | k + 1, i, n => by simp only [yldP, List.length_cons, yldP_length l k]
theorem lenFrom_succ (l : List (List D)) (k : Nat) : lenFrom l 0 (k + 1) = lenFrom l 0 k + ix (l.getD k []) 0 := by
  rw [lenFrom_add l k 1 0]
  simp [lenFrom]
theorem ok98_1 (q n : Nat) : LoopSimY C n 3 98 (loopOf C.P 98 1) (some y98) q (mkLY 3 l98_1 (G98_1 q)) := by
  refine loop_ofY hC (sp := sp98) (lp := lp98 q) (sw := sw98) (Y := y98) (yOK_mk _ _ _) trivial trivial 3 [] (by kernel_rfl) rfl (by kernel_rfl) (fun k hk => by cases hk) (by kernel_rfl) (fun ds => ((ds.getD 2 default).I - (ds.getD 3 default).I).toNat) fun ds rr h => ?_
  unfold G98_1 at h
  split at h
  · rename_i g p' m i p c j s r
    obtain ⟨hp, h⟩ := need_some h
    rw [yes_iff] at hp
    obtain ⟨hm, h1, h2, h3, h4, h5, h6, hg⟩ := hp
    obtain ⟨m1, m2, m3⟩ := id hm
    refine ⟨by rw [fuelC]; simp; omega, ?_⟩
    rw [show roundTY C (mkTabY sp98 (lp98 q) sw98 y98 q) 98 (loopOf C.P 98 1) 3 l98_1 [g, p', m, i, p, c, j, s, r] = _ from t98_1 q g p' m i p c j s r]
    obtain ⟨k, hk⟩ : ∃ k : Nat, i.I = k := ⟨i.I.toNat, by omega⟩
    have hq : (tab98 q).q = q := rfl
    have hs : s.I.toNat = p.L.length + 1 := by omega
    have hrl : r.L.length = p.L.length + 1 := by rw [h6, begR_length]
    simp only [hk, h1, h2, hs, hrl, Int.toNat_natCast, ix_def, Nat.reduceAdd, hq] at h h3 h4 ⊢
    refine rd_if (fun hlt => ?_) fun hge => ?_
    · have hlt : k < p.L.length := by omega
      rw [h6, begR_get (by omega), ← h6, wrap_succ (by omega)]
      rw [yldP_step hlt, ← lenFrom_succ] at h
      simp only [List.append_nil, List.cons_append, List.nil_append, Bool.not_not]
      have hnext : ∀ {G' : List (List D)}, G'.length ≤ q → ((T.ite (decide (q < G'.length + (p.L.length - (k + 1)))) (T.leaf (Ex.ret, [D.l (G' ++ (yldP p.L (k + 1) (p.L.length - (k + 1)) (lenFrom p.L 0 (k + 1))).take (q + 1 - G'.length)), .l p.L, .l c.L, .l j.L, .i (p.L.length + 1 : Nat), .l r.L]))
        (T.leaf (Ex.exit 0, [D.l (G' ++ yldP p.L (k + 1) (p.L.length - (k + 1)) (lenFrom p.L 0 (k + 1))), .l p.L, .l c.L, .l j.L, .i (p.L.length + 1 : Nat), .l r.L]))).run = some rr) → (G98_1 q [D.l G', D.l p.L, D.i (p.L.length : Int), D.i ((k + 1 : Nat) : Int), D.l p.L, D.l c.L, D.l j.L, .i (p.L.length + 1 : Nat), .l r.L]).run = some rr := fun {G'} hG' h => by
        refine (need_yes ⟨hm, rfl, rfl, by simp only [I_i]; omega, by simp only [I_i, L_l]; omega, by simp only [I_i, L_l]; omega, h6, hG'⟩).trans ?_
        simp only [I_i, L_l, Int.toNat_natCast]
        exact h
      have hmu : ((p.L.length : Int) - ((k + 1 : Nat) : Int)).toNat < (m.I - i.I).toNat := by rw [hk, h2]; omega
      refine rd_dec (by omega) (rd_dec (by omega) (rd_dec (by omega) (rd_ite (fun c2 => ?_) fun c2 => ?_)))
      · have c2 : g.L.length = q := by simpa using c2
        rw [run_ite, if_pos (by simp; omega)] at h
        rw [show q + 1 - g.L.length = 1 by omega] at h
        exact rd_out h
      · have c2 : g.L.length ≠ q := by simpa using c2
        refine rd_again (hnext (by simp; omega) ?_) hmu
        simp only [List.length_append, List.length_cons, List.length_nil, List.append_assoc, List.cons_append, List.nil_append]
        rw [show q + 1 - g.L.length = (q + 1 - (g.L.length + (0 + 1))) + 1 by omega, List.take_succ_cons] at h
        rw [show g.L.length + (0 + 1) + (p.L.length - (k + 1)) = g.L.length + (p.L.length - k) by omega]
        exact h
    · rw [show p.L.length - k = 0 by omega] at h
      simp only [yldP, List.append_nil] at h
      rw [run_ite] at h
      split at h
      · rename_i hc
        have := of_decide_eq_true hc
        omega
      · exact rd_out h
  · cases h
theorem ok98 (n : Nat) : IterOK C (n + 1) 98 y98 (mkFY s98 G98) := by
  refine iter_of hC (sp := sp98) (lp := lp98) (sw := sw98) (Y := y98) (yOK_mk _ _ _) trivial trivial (by kernel_rfl) [1] (by kernel_rfl) (by kernel_rfl) (by kernel_rfl) (fun q k hk L hL => by
    simp at hk; subst hk; cases hL; exact ok98_1 q n) fun ds L h q => ?_
  unfold G98 at h
  split at h
  · rename_i p c j s r
    obtain ⟨hp, h⟩ := need_some h
    rw [yes_iff] at hp
    cases h
    refine (congrArg T.run (t98 q p c j s r)).trans (go_yes ⟨hp.1, rfl, rfl, by omega, by omega, by have := hp.2.1; omega, hp.2.2, by simp⟩ (go_if (fun cc => ?_) fun cc => ?_))
    · simp only [List.nil_append, List.length_nil, Nat.sub_zero, run_leaf]
      rfl
    · have cc : ¬ q < p.L.length := fun h => cc (by simpa using h)
      simp only [List.nil_append, run_leaf]
      rw [List.take_of_length_le (by rw [yldP_length]; omega)]
      rfl
  · cases h
theorem emp_false {l : List (List D)} (h : l ≠ []) : l.isEmpty = false := by cases l with
  | nil => exact absurd rfl h
  | cons c cs => rfl
theorem bytes51 : Try.prog.types[51].bytes = 40 := by kernel_rfl
theorem bytes121 : Try.prog.types[121].bytes = 16 := by kernel_rfl
theorem bytes123 : Try.prog.types[123].bytes = 24 := by kernel_rfl
theorem bytes135 : Try.prog.types[135].bytes = 32 := by kernel_rfl
theorem ok56 (n : Nat) : FnOK C (n + 1) 56 (mkF s56 G56) := by
  refine fn_ofS hC (sp := sp56) (lp := lp56) (sw := sw56) trivial trivial (by kernel_rfl) [] (by kernel_rfl) rfl (fun k hk => by cases hk) fun ds rr h => ?_
  unfold G56 at h
  split at h
  · rename_i l
    obtain ⟨hp, h⟩ := need_some h
    rw [yes_iff] at hp
    obtain ⟨h1, h2⟩ := hp
    refine (congrArg T.run (t56 l)).trans ?_
    have hne := emp_false h1
    rw [bytes51]
    refine go_need (by rw [hne]; rfl) (go_false hne (go_dec (by omega) h))
  · cases h
theorem ok57 (n : Nat) : FnOK C (n + 1) 57 (mkF s57 Gcl) := by
  refine clone_ok (ks := [.int .i64, .int .i64]) (by kernel_rfl) (fun kd c0 => by cases kd <;> cases c0 <;> kernel_rfl) ?_
  refine fn_ofS hC (sp := sp57) (lp := lp57) (sw := sw57) trivial trivial (by kernel_rfl) [] (by kernel_rfl) rfl (fun k hk => by cases hk) fun ds rr h => ?_
  unfold Gcl1 at h
  split at h
  · rename_i l
    obtain ⟨hp, h⟩ := need_some h
    rw [yes_iff] at hp
    obtain ⟨h1, h2⟩ := hp
    refine (congrArg T.run (t57 l)).trans ?_
    have hne := emp_false h1
    rw [bytes121]
    refine go_need (by rw [hne]; rfl) (go_false hne (go_dec (by omega) h))
  · cases h
theorem ok58 (n : Nat) : FnOK C (n + 1) 58 (mkF s58 Gcl) := by
  refine clone_ok (ks := [.int .i64, .int .i64, .int .i64]) (by kernel_rfl) (fun kd c0 => by cases kd <;> cases c0 <;> kernel_rfl) ?_
  refine fn_ofS hC (sp := sp58) (lp := lp58) (sw := sw58) trivial trivial (by kernel_rfl) [] (by kernel_rfl) rfl (fun k hk => by cases hk) fun ds rr h => ?_
  unfold Gcl1 at h
  split at h
  · rename_i l
    obtain ⟨hp, h⟩ := need_some h
    rw [yes_iff] at hp
    obtain ⟨h1, h2⟩ := hp
    refine (congrArg T.run (t58 l)).trans ?_
    have hne := emp_false h1
    rw [bytes123]
    refine go_need (by rw [hne]; rfl) (go_false hne (go_dec (by omega) h))
  · cases h
theorem ok59_1 (n : Nat) : LoopSimK C n 1 59 (loopOf C.P 59 1) (mkLK 1 l59_1 G59_1) := by
  refine loop_ofK hC (sp := sp59) (lp := lp59) (sw := sw59) trivial trivial 1 [] (by kernel_rfl) rfl (fun k hk => by cases hk) (by kernel_rfl) (fun ds => ((ds.getD 2 default).I - (ds.getD 1 default).I).toNat) fun ds rr h => ?_
  unfold G59_1 Grev_1 at h
  split at h
  · rename_i n i j r
    obtain ⟨hp, h⟩ := need_some h
    rw [yes_iff] at hp
    obtain ⟨h1, h2, h3, h4, h5, h6⟩ := hp
    refine ⟨by rw [fuelC]; simp; omega, ?_⟩
    rw [show roundTK C (mkTab sp59 lp59 sw59) 59 (loopOf C.P 59 1) 1 l59_1 [n, i, j, r] = _ from t59_1 n i j r]
    obtain ⟨a, ha⟩ : ∃ a : Nat, i.I = a := ⟨i.I.toNat, by omega⟩
    obtain ⟨b, hb⟩ : ∃ b : Nat, j.I = b := ⟨j.I.toNat, by omega⟩
    simp only [ha, hb, h2, Int.toNat_natCast, List.length_set] at h h3 h4 h5 h6 ⊢
    refine rd_if (fun hlt => ?_) fun hge => ?_
    · have hlt : a < b := by omega
      rw [show ((b : Int) - (a : Int) + 1).toNat / 2 = (((b - 1 : Nat) : Int) - ((a + 1 : Nat) : Int) + 1).toNat / 2 + 1 by omega] at h
      have w2 : IntKind.i64.wrap ((b : Int) - 1) = ((b - 1 : Nat) : Int) := by rw [show (b : Int) - 1 = ((b - 1 : Nat) : Int) by omega]; exact wrap_id (by omega) (by omega)
      rw [wrap_succ (by omega), w2]
      refine rd_dec (by omega) (rd_dec (by omega) (rd_dec (by omega) (rd_dec (by omega) (rd_dec (by omega) (rd_dec (by omega) (rd_dec (by omega) (rd_dec (by omega) (rd_again ((need_yes ⟨by simp only [L_l, List.length_set]; omega, by simp only [I_i, L_l, List.length_set], by simp only [I_i]; omega, by simp only [I_i]; omega, by simp only [I_i, L_l, List.length_set]; omega, by simp only [I_i]; omega⟩).trans ?_) ?_))))))))
      · rw [← h]
        simp only [I_i, L_l, Int.toNat_natCast, revL]
        rfl
      · show ((((b - 1 : Nat) : Int)) - ((a + 1 : Nat) : Int)).toNat < (j.I - i.I).toNat
        omega
    · rw [show ((b : Int) - (a : Int) + 1).toNat / 2 = 0 by omega] at h
      exact rd_out h
  · cases h
theorem ok59 (n : Nat) : FnOKW C (n + 1) 59 (mkFW s59 G59) := by
  refine fn_ofW hC (sp := sp59) (lp := lp59) (sw := sw59) trivial trivial (by kernel_rfl) [1] (by kernel_rfl) (by kernel_rfl) (fun k hk L hL => by simp at hk; subst hk; cases hL; exact ok59_1 n) fun ds rr h => ?_
  unfold G59 Grev at h
  split at h
  · rename_i n r
    obtain ⟨hp, h⟩ := need_some h
    rw [yes_iff] at hp
    obtain ⟨h1, h2, h3⟩ := hp
    refine (congrArg T.run (t59 n r)).trans ?_
    have w2 : IntKind.i64.wrap ((r.L.length : Int) - 1) = ((r.L.length - 1 : Nat) : Int) := by rw [show (r.L.length : Int) - 1 = ((r.L.length - 1 : Nat) : Int) by omega]; exact wrap_id (by omega) (by omega)
    simp only [h3, Int.toNat_natCast, w2, Int.toNat_zero]
    refine go_yes ⟨h2, by trivial, by trivial, by omega, by omega, by omega⟩ ?_
    rw [← h, show (((r.L.length - 1 : Nat) : Int) - 0 + 1).toNat / 2 = r.L.length / 2 by omega]
    rfl
  · cases h
theorem ok60_1 (n : Nat) : LoopSimK C n 1 60 (loopOf C.P 60 1) (mkLK 1 l60_1 G60_1) := by
  refine loop_ofK hC (sp := sp60) (lp := lp60) (sw := sw60) trivial trivial 1 [] (by kernel_rfl) rfl (fun k hk => by cases hk) (by kernel_rfl) (fun ds => ((ds.getD 2 default).I - (ds.getD 1 default).I).toNat) fun ds rr h => ?_
  unfold G60_1 Grev_1 at h
  split at h
  · rename_i n i j r
    obtain ⟨hp, h⟩ := need_some h
    rw [yes_iff] at hp
    obtain ⟨h1, h2, h3, h4, h5, h6⟩ := hp
    refine ⟨by rw [fuelC]; simp; omega, ?_⟩
    rw [show roundTK C (mkTab sp60 lp60 sw60) 60 (loopOf C.P 60 1) 1 l60_1 [n, i, j, r] = _ from t60_1 n i j r]
    obtain ⟨a, ha⟩ : ∃ a : Nat, i.I = a := ⟨i.I.toNat, by omega⟩
    obtain ⟨b, hb⟩ : ∃ b : Nat, j.I = b := ⟨j.I.toNat, by omega⟩
    simp only [ha, hb, h2, Int.toNat_natCast, List.length_set] at h h3 h4 h5 h6 ⊢
    refine rd_if (fun hlt => ?_) fun hge => ?_
    · have hlt : a < b := by omega
      rw [show ((b : Int) - (a : Int) + 1).toNat / 2 = (((b - 1 : Nat) : Int) - ((a + 1 : Nat) : Int) + 1).toNat / 2 + 1 by omega] at h
      have w2 : IntKind.i64.wrap ((b : Int) - 1) = ((b - 1 : Nat) : Int) := by rw [show (b : Int) - 1 = ((b - 1 : Nat) : Int) by omega]; exact wrap_id (by omega) (by omega)
      rw [wrap_succ (by omega), w2]
      refine rd_dec (by omega) (rd_dec (by omega) (rd_dec (by omega) (rd_dec (by omega) (rd_dec (by omega) (rd_dec (by omega) (rd_dec (by omega) (rd_dec (by omega) (rd_again ((need_yes ⟨by simp only [L_l, List.length_set]; omega, by simp only [I_i, L_l, List.length_set], by simp only [I_i]; omega, by simp only [I_i]; omega, by simp only [I_i, L_l, List.length_set]; omega, by simp only [I_i]; omega⟩).trans ?_) ?_))))))))
      · rw [← h]
        simp only [I_i, L_l, Int.toNat_natCast, revL]
        rfl
      · show ((((b - 1 : Nat) : Int)) - ((a + 1 : Nat) : Int)).toNat < (j.I - i.I).toNat
        omega
    · rw [show ((b : Int) - (a : Int) + 1).toNat / 2 = 0 by omega] at h
      exact rd_out h
  · cases h
theorem ok60 (n : Nat) : FnOKW C (n + 1) 60 (mkFW s60 G60) := by
  refine fn_ofW hC (sp := sp60) (lp := lp60) (sw := sw60) trivial trivial (by kernel_rfl) [1] (by kernel_rfl) (by kernel_rfl) (fun k hk L hL => by simp at hk; subst hk; cases hL; exact ok60_1 n) fun ds rr h => ?_
  unfold G60 Grev at h
  split at h
  · rename_i n r
    obtain ⟨hp, h⟩ := need_some h
    rw [yes_iff] at hp
    obtain ⟨h1, h2, h3⟩ := hp
    refine (congrArg T.run (t60 n r)).trans ?_
    have w2 : IntKind.i64.wrap ((r.L.length : Int) - 1) = ((r.L.length - 1 : Nat) : Int) := by rw [show (r.L.length : Int) - 1 = ((r.L.length - 1 : Nat) : Int) by omega]; exact wrap_id (by omega) (by omega)
    simp only [h3, Int.toNat_natCast, w2, Int.toNat_zero]
    refine go_yes ⟨h2, by trivial, by trivial, by omega, by omega, by omega⟩ ?_
    rw [← h, show (((r.L.length - 1 : Nat) : Int) - 0 + 1).toNat / 2 = r.L.length / 2 by omega]
    rfl
  · cases h
theorem ok61_1 (n : Nat) : LoopSimK C n 1 61 (loopOf C.P 61 1) (mkLK 1 l61_1 G61_1) := by
  refine loop_ofK hC (sp := sp61) (lp := lp61) (sw := sw61) trivial trivial 1 [] (by kernel_rfl) rfl (fun k hk => by cases hk) (by kernel_rfl) (fun ds => ((ds.getD 2 default).I - (ds.getD 1 default).I).toNat) fun ds rr h => ?_
  unfold G61_1 Grev_1 at h
  split at h
  · rename_i n i j r
    obtain ⟨hp, h⟩ := need_some h
    rw [yes_iff] at hp
    obtain ⟨h1, h2, h3, h4, h5, h6⟩ := hp
    refine ⟨by rw [fuelC]; simp; omega, ?_⟩
    rw [show roundTK C (mkTab sp61 lp61 sw61) 61 (loopOf C.P 61 1) 1 l61_1 [n, i, j, r] = _ from t61_1 n i j r]
    obtain ⟨a, ha⟩ : ∃ a : Nat, i.I = a := ⟨i.I.toNat, by omega⟩
    obtain ⟨b, hb⟩ : ∃ b : Nat, j.I = b := ⟨j.I.toNat, by omega⟩
    simp only [ha, hb, h2, Int.toNat_natCast, List.length_set] at h h3 h4 h5 h6 ⊢
    refine rd_if (fun hlt => ?_) fun hge => ?_
    · have hlt : a < b := by omega
      rw [show ((b : Int) - (a : Int) + 1).toNat / 2 = (((b - 1 : Nat) : Int) - ((a + 1 : Nat) : Int) + 1).toNat / 2 + 1 by omega] at h
      have w2 : IntKind.i64.wrap ((b : Int) - 1) = ((b - 1 : Nat) : Int) := by rw [show (b : Int) - 1 = ((b - 1 : Nat) : Int) by omega]; exact wrap_id (by omega) (by omega)
      rw [wrap_succ (by omega), w2]
      refine rd_dec (by omega) (rd_dec (by omega) (rd_dec (by omega) (rd_dec (by omega) (rd_dec (by omega) (rd_dec (by omega) (rd_dec (by omega) (rd_dec (by omega) (rd_again ((need_yes ⟨by simp only [L_l, List.length_set]; omega, by simp only [I_i, L_l, List.length_set], by simp only [I_i]; omega, by simp only [I_i]; omega, by simp only [I_i, L_l, List.length_set]; omega, by simp only [I_i]; omega⟩).trans ?_) ?_))))))))
      · rw [← h]
        simp only [I_i, L_l, Int.toNat_natCast, revL]
        rfl
      · show ((((b - 1 : Nat) : Int)) - ((a + 1 : Nat) : Int)).toNat < (j.I - i.I).toNat
        omega
    · rw [show ((b : Int) - (a : Int) + 1).toNat / 2 = 0 by omega] at h
      exact rd_out h
  · cases h
theorem ok61 (n : Nat) : FnOKW C (n + 1) 61 (mkFW s61 G61) := by
  refine fn_ofW hC (sp := sp61) (lp := lp61) (sw := sw61) trivial trivial (by kernel_rfl) [1] (by kernel_rfl) (by kernel_rfl) (fun k hk L hL => by simp at hk; subst hk; cases hL; exact ok61_1 n) fun ds rr h => ?_
  unfold G61 Grev at h
  split at h
  · rename_i n r
    obtain ⟨hp, h⟩ := need_some h
    rw [yes_iff] at hp
    obtain ⟨h1, h2, h3⟩ := hp
    refine (congrArg T.run (t61 n r)).trans ?_
    have w2 : IntKind.i64.wrap ((r.L.length : Int) - 1) = ((r.L.length - 1 : Nat) : Int) := by rw [show (r.L.length : Int) - 1 = ((r.L.length - 1 : Nat) : Int) by omega]; exact wrap_id (by omega) (by omega)
    simp only [h3, Int.toNat_natCast, w2, Int.toNat_zero]
    refine go_yes ⟨h2, by trivial, by trivial, by omega, by omega, by omega⟩ ?_
    rw [← h, show (((r.L.length - 1 : Nat) : Int) - 0 + 1).toNat / 2 = r.L.length / 2 by omega]
    rfl
  · cases h
theorem ok1060_1 (n : Nat) : LoopSim C n 60 (loopOf C.P 60 1) (mkL l1060_1 G1060_1) := by
  refine loop_ofK hC (sp := sp1060) (lp := lp1060) (sw := sw1060) trivial trivial 0 [] (by kernel_rfl) rfl (fun k hk => by cases hk) (by kernel_rfl) (fun _ => 0) fun ds rr h => ?_
  unfold G1060_1  at h
  split at h
  · rename_i i j
    obtain ⟨hp, h⟩ := need_some h
    rw [yes_iff] at hp
    refine ⟨by rw [fuelC]; simp, ?_⟩
    rw [show roundTK C (mkTab sp1060 lp1060 sw1060) 60 (loopOf C.P 60 1) 0 l1060_1 [i, j] = _ from t1060_1 i j]
    exact rd_neg (ds := [i, j]) (by omega) (rd_out h)
  · cases h
theorem ok1060 (n : Nat) : FnOKW C (n + 1) 60 (mkFW s1060 G1060) := by
  refine fn_ofW hC (sp := sp1060) (lp := lp1060) (sw := sw1060) trivial trivial (by kernel_rfl) [1] (by kernel_rfl) (by kernel_rfl) (fun k hk L hL => by simp at hk; subst hk; cases hL; exact ok1060_1 n) fun ds rr h => ?_
  unfold G1060  at h
  split at h
  · exact (congrArg T.run t1060).trans (go_yes (by decide) h)
  · cases h
theorem ok1061_1 (n : Nat) : LoopSim C n 61 (loopOf C.P 61 1) (mkL l1061_1 G1061_1) := by
  refine loop_ofK hC (sp := sp1061) (lp := lp1061) (sw := sw1061) trivial trivial 0 [] (by kernel_rfl) rfl (fun k hk => by cases hk) (by kernel_rfl) (fun _ => 0) fun ds rr h => ?_
  unfold G1061_1 G1060_1 at h
  split at h
  · rename_i i j
    obtain ⟨hp, h⟩ := need_some h
    rw [yes_iff] at hp
    refine ⟨by rw [fuelC]; simp, ?_⟩
    rw [show roundTK C (mkTab sp1061 lp1061 sw1061) 61 (loopOf C.P 61 1) 0 l1061_1 [i, j] = _ from t1061_1 i j]
    exact rd_neg (ds := [i, j]) (by omega) (rd_out h)
  · cases h
theorem ok1061 (n : Nat) : FnOKW C (n + 1) 61 (mkFW s1061 G1061) := by
  refine fn_ofW hC (sp := sp1061) (lp := lp1061) (sw := sw1061) trivial trivial (by kernel_rfl) [1] (by kernel_rfl) (by kernel_rfl) (fun k hk L hL => by simp at hk; subst hk; cases hL; exact ok1061_1 n) fun ds rr h => ?_
  unfold G1061 G1060 at h
  split at h
  · exact (congrArg T.run t1061).trans (go_yes (by decide) h)
  · cases h
theorem lpL_step {dg : Int} {wt : Bool} {p : List (List D)} {k : Nat} (hk : k < p.length) : lpL dg wt (p.drop k) = [.i (IntKind.i64.wrap (ix (p.getD k []) 4 - 1)), .i (ix (p.getD k []) 0), .i dg, .b wt] :: lpL dg wt (p.drop (k + 1)) := by
  have e : p[k] = p.getD k [] := by simp [List.getD_eq_getElem?_getD, hk]
  unfold lpL
  rw [List.drop_eq_getElem_cons hk, List.map_cons, e]
  rfl
def μ22 (ds : List D) : Nat := match ds with
  | [_, _, _, _, p, _, _] => p.L.length + 1
  | [_, _, _, _, i, p, _, _, _] => ((p.L.length : Int) - i.I).toNat
  | _ => 0
theorem ok22_3 (n : Nat) : LoopSim C n 22 (loopOf C.P 22 3) (mkL l22_3 G22_3) := by
  refine loop_ofK hC (sp := sp22) (lp := lp22) (sw := sw22) trivial trivial 0 [] (by kernel_rfl) rfl (fun k hk => by cases hk) (by kernel_rfl) μ22 fun ds rr h => ?_
  unfold G22_3 at h
  split at h
  · rename_i z dg wt i p c j
    obtain ⟨hp, h⟩ := need_some h
    rw [yes_iff] at hp
    obtain ⟨hz, h1, h2⟩ := hp
    refine ⟨by rw [fuelC]; show p.L.length + 1 < _; omega, ?_⟩
    rw [roundTK_head (j := z) (n := 0) hz (by decide), show roundTK C (mkTab sp22 lp22 sw22) 22 (loopOf C.P 22 3) 0 l22_3 [.i 0, dg, wt, i, p, c, j] = _ from t22_3_0 dg wt i p c j]
    simp only [h1, Int.toNat_zero, ix_def, Nat.reduceAdd] at h ⊢
    refine rd_if (fun hlt => ?_) fun hge => ?_
    · rw [run_ite, if_neg (show ¬ decide (p.L.length = 0) = true from fun hc => by have := of_decide_eq_true hc; omega)] at h
      rw [show IntKind.i64.wrap ((0 : Int) + 1) = 1 by decide]
      refine rd_dec (by omega) (rd_dec (by omega) (rd_need rfl (rd_false rfl (rd_need rfl (rd_again ((need_yes ⟨rfl, h2, by simp only [I_i]; omega, by simp only [I_i, L_l]; omega, rfl, rfl⟩).trans ?_) ?_)))))
      · rw [← h]
        have e := lpL_step (dg := dg.I) (wt := wt.B) (p := p.L) (k := 0) (by omega)
        rw [List.drop_zero] at e
        rw [e]
        rfl
      · show (((p.L.length : Int)) - 1).toNat < p.L.length + 1
        omega
    · rw [run_ite, if_pos (decide_eq_true (by omega))] at h
      exact rd_out h
  · rename_i z dg wt s i p c j r
    obtain ⟨hp, h⟩ := need_some h
    rw [yes_iff] at hp
    obtain ⟨hz, h2, h3, h4, h5, h6⟩ := hp
    refine ⟨by rw [fuelC]; show ((p.L.length : Int) - i.I).toNat < _; omega, ?_⟩
    rw [roundTK_head (j := z) (n := 1) hz (by decide), show roundTK C (mkTab sp22 lp22 sw22) 22 (loopOf C.P 22 3) 0 l22_3 [.i 1, dg, wt, s, i, p, c, j, r] = _ from t22_3_1 dg wt s i p c j r]
    obtain ⟨k, hk⟩ : ∃ k : Nat, i.I = k := ⟨i.I.toNat, by omega⟩
    have hrl : r.L.length = k := by omega
    have htk : r.L.take k = r.L := List.take_of_length_le (by omega)
    simp only [h5, hk, Int.toNat_natCast, ix_def, Nat.reduceAdd, htk, bytes135, List.length_cons, List.length_nil, show ∀ (x : List D), List.take 1 [x] = [x] from fun _ => rfl] at h h3 h4 ⊢
    refine rd_if (fun hlt => ?_) fun hge => rd_out ?_
    · have hlt : k < p.L.length := by omega
      rw [lpL_step hlt] at h
      rw [wrap_succ (by omega)]
      refine rd_dec (by omega) (rd_dec (by omega) (rd_need rfl (rd_false rfl (rd_dec (by omega) (rd_again ((need_yes ⟨rfl, h2, by simp only [I_i]; omega, by simp only [I_i, L_l]; omega, rfl, by simp only [I_i, L_l, List.length_append, List.length_cons, List.length_nil]; omega⟩).trans ?_) ?_)))))
      · rw [← h]
        simp only [L_l, I_i, B_b, Int.toNat_natCast, List.append_assoc, List.cons_append, List.nil_append]
      · show (((p.L.length : Int)) - ((k + 1 : Nat) : Int)).toNat < (((p.L.length : Int)) - i.I).toNat
        omega
    · rw [← h]
      have e : k = p.L.length := by omega
      rw [e, List.drop_length]
      simp only [lpL, List.map_nil, List.append_nil, run_leaf]
  · cases h
theorem ok22 (n : Nat) : FnOK C (n + 1) 22 (mkF s22 G22) := by
  refine fn_ofS hC (sp := sp22) (lp := lp22) (sw := sw22) trivial trivial (by kernel_rfl) [3] (by kernel_rfl) (by kernel_rfl) (fun k hk L hL => by simp at hk; subst hk; cases hL; exact ok22_3 n) fun ds rr h => ?_
  unfold G22 at h
  split at h
  · rename_i p c j dg wt
    obtain ⟨hp, h⟩ := need_some h
    rw [yes_iff] at hp
    refine (congrArg T.run (t22 p c j dg wt)).trans ?_
    have hl : (lpL dg.I wt.B p.L).length = p.L.length := by simp [lpL]
    refine go_yes ⟨rfl, rfl, hp⟩ (go_if (fun e => ?_) fun e => ?_)
    · rw [← h]
      have e : p.L = [] := List.length_eq_zero_iff.1 e
      rw [e]
      rfl
    · simp only [Int.toNat_natCast]
      refine go_dec (by omega) ?_
      rw [List.take_of_length_le (by omega)]
      exact h
  · cases h
end Go.Proofs.Ytgoedfonmocafaa
