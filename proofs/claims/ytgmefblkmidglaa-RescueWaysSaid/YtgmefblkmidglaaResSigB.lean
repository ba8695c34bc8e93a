/-
  Shapes of arguments, results and loops. Written by program.
-/
import Derived.Test.YtgmefblkmidglaaResSigA
namespace Go.Proofs.Ytgmefblkmidglaa
open Go.Lite
def s73 : Sig := ⟨[.k (.int .i64), .agg [.k (.int .i64), .k (.int .i64)], .fn 74 [] [.eptr [.k (.int .i64), .k (.ro [.int .i64, .int .i64, .int .i64, .ro [.int .i64, .int .i64]])]]], [(.sl 0 1, [.row [.int .i64]])]⟩
def h73_14 : List Shp := [mkShp (72, [(2, .fn 74 [] [.eptr [.k (.int .i64), .k (.ro [.int .i64, .int .i64, .int .i64, .ro [.int .i64, .int .i64]])]]), (6, .nils), (7, .ptr 0 1 0 0), (9, .ptr 1 1 0 0), (51, .fn 75 [] [.eptr [.k (.int .i64), .k (.ro [.int .i64, .int .i64, .int .i64, .ro [.int .i64, .int .i64]])], .any, .any])], [.box [.sl 2 1], .box [.ifc 159 (.ptr 3 1 0 0)], .row [.int .i64], .box [.sl 4 2], .row [.int .i64, .int .i64]])]
def l73_3 : LSig := mkLS [2, 4, 6, 7, 15, 16] [(72, [(2, .fn 74 [] [.eptr [.k (.int .i64), .k (.ro [.int .i64, .int .i64, .int .i64, .ro [.int .i64, .int .i64]])]]), (4, .ptr 0 2 0 0), (6, .nils), (7, .ptr 1 1 0 0), (15, .k (.int .i64)), (16, .k (.int .i64))], [.box [.k (.int .i64), .k (.int .i64)], .box [.sl 2 1], .row [.int .i64]])] [(.exit 0, [2, 4, 6, 7], [(72, [(2, .fn 74 [] [.eptr [.k (.int .i64), .k (.ro [.int .i64, .int .i64, .int .i64, .ro [.int .i64, .int .i64]])]]), (4, .ptr 0 2 0 0), (6, .nils), (7, .ptr 1 1 0 0)], [.box [.k (.int .i64), .k (.int .i64)], .box [.sl 2 1], .row [.int .i64]])])]
def l73_9 : LSig := mkLS [2, 6, 7, 9] [(72, [(2, .fn 74 [] [.eptr [.k (.int .i64), .k (.ro [.int .i64, .int .i64, .int .i64, .ro [.int .i64, .int .i64]])]]), (6, .nils), (7, .ptr 0 1 0 0), (9, .ptr 1 1 0 0)], [.box [.sl 2 1], .box [.ifc 159 (.ptr 3 1 0 0)], .row [.int .i64], .box [.sl 4 2], .row [.int .i64, .int .i64]])] [(.exit 2, [7], [(72, [(7, .ptr 0 1 0 0)], [.box [.sl 1 1], .row [.int .i64]])])]
def s46 : Sig := ⟨[.agg [.k (.int .i64), .k (.ro [.int .i64, .int .i64, .int .i64, .ro [.int .i64, .int .i64]])], .k (.int .i64), .k (.int .i64)], [(.sl 0 1, [.row [.int .i64]])]⟩
def l46_3 : LSig := mkLS [7, 17, 18, 19] [(31, [(7, .sl 0 1), (17, .sl 0 1), (18, .k (.int .i64)), (19, .k (.int .i64))], [.row [.int .i64]])] [(.exit 0, [7], [(31, [(7, .sl 0 1)], [.row [.int .i64]])])]
end Go.Proofs.Ytgmefblkmidglaa
