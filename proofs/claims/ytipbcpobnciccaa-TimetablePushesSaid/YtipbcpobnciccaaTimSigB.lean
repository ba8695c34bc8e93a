/-
  Shapes of arguments, results and loops. Written by program.
-/
import Derived.Test.YtipbcpobnciccaaTimSigA
namespace Go.Proofs.Ytipbcpobnciccaa
open Go.Lite
def s49 : Sig := ⟨[.k (.int .i64), .k (.ro [.int .i64, .int .i64, .int .i64])], [(.ptr 0 2 0 0, [.box [.k (.int .i64), .sl 1 3], .row [.int .i64, .int .i64, .int .i64]]), (.ptr 0 2 0 0, [.box [.k (.int .i64), .emp 3]])]⟩
def l49_3 : LSig := mkLS [5, 12, 13] [(29, [(5, .ptr 0 2 0 0), (12, .k (.int .i64)), (13, .k (.int .i64))], [.box [.k (.int .i64), .sl 1 3], .row [.int .i64, .int .i64, .int .i64]]), (29, [(5, .ptr 0 2 0 0), (12, .k (.int .i64)), (13, .k (.int .i64))], [.box [.k (.int .i64), .emp 3]])] [(.exit 0, [5], [(29, [(5, .ptr 0 2 0 0)], [.box [.k (.int .i64), .sl 1 3], .row [.int .i64, .int .i64, .int .i64]]), (29, [(5, .ptr 0 2 0 0)], [.box [.k (.int .i64), .emp 3]])])]
def s55 : Sig := ⟨[.k (.int .i64), .k (.ro [.int .i64, .int .i64, .int .i64])], [(.nils, []), (.sl 0 3, [.row [.int .i64, .int .i64, .int .i64]])]⟩
def l55_3 : LSig := mkLS [0, 5, 6] [(20, [(0, .k (.int .i64)), (5, .nils), (6, .k (.int .i64))], []), (20, [(0, .k (.int .i64)), (5, .sl 0 3), (6, .k (.int .i64))], [.row [.int .i64, .int .i64, .int .i64]])] [(.exit 0, [5], [(20, [(5, .nils)], []), (20, [(5, .sl 0 3)], [.row [.int .i64, .int .i64, .int .i64]])])]
def s53 : SigW := ⟨[.sl 0 1], [.row [.int .i64]], [(.tup [], [.row [.int .i64]])]⟩
def l53_1 : LSig := mkLS [0, 2, 3] [(28, [(0, .sl 0 1), (2, .k (.int .i64)), (3, .k (.int .i64))], [.row [.int .i64]])] [(.exit 0, [], [(28, [], [.row [.int .i64]])])]
def s68 : SigW := ⟨[.eptr [.k (.int .i64), .k (.ro [.int .i64, .int .i64, .int .i64])], .sl 0 1], [.row [.int .i64]], [(.tup [.sl 1 1, .k (.int .i64)], [.row [.int .i64], .row [.int .i64]])]⟩
def l68_3 : LSig := mkLS [0, 1, 6, 18, 19] [(76, [(0, .eptr [.k (.int .i64), .k (.ro [.int .i64, .int .i64, .int .i64])]), (1, .sl 0 1), (6, .sl 1 1), (18, .k (.int .i64)), (19, .k (.int .i64))], [.row [.int .i64], .row [.int .i64]])] [(.exit 0, [0, 1, 6], [(76, [(0, .eptr [.k (.int .i64), .k (.ro [.int .i64, .int .i64, .int .i64])]), (1, .sl 0 1), (6, .sl 1 1)], [.row [.int .i64], .row [.int .i64]])])]
def l68_9 : LSig := mkLS [0, 1, 6, 8, 30, 31] [(76, [(0, .eptr [.k (.int .i64), .k (.ro [.int .i64, .int .i64, .int .i64])]), (1, .sl 0 1), (6, .sl 1 1), (8, .k (.int .i64)), (30, .k (.int .i64)), (31, .k (.int .i64))], [.row [.int .i64], .row [.int .i64]])] [(.exit 2, [6, 8], [(76, [(6, .sl 1 1), (8, .k (.int .i64))], [.row [.int .i64], .row [.int .i64]])])]
def l68_12 : LSig := mkLS [0, 1, 6, 8, 30, 31, 36, 37, 38] [(76, [(0, .eptr [.k (.int .i64), .k (.ro [.int .i64, .int .i64, .int .i64])]), (1, .sl 0 1), (6, .sl 1 1), (8, .k (.int .i64)), (30, .k (.int .i64)), (31, .k (.int .i64)), (36, .k (.ro [.int .i64, .int .i64, .int .i64])), (37, .k (.int .i64)), (38, .k (.int .i64))], [.row [.int .i64], .row [.int .i64]])] [(.exit 4, [0, 1, 6, 8, 30, 31], [(76, [(0, .eptr [.k (.int .i64), .k (.ro [.int .i64, .int .i64, .int .i64])]), (1, .sl 0 1), (6, .sl 1 1), (8, .k (.int .i64)), (30, .k (.int .i64)), (31, .k (.int .i64))], [.row [.int .i64], .row [.int .i64]])])]
end Go.Proofs.Ytipbcpobnciccaa
