/-
  Shapes of arguments, results and loops. Written by program.
-/
import Derived.Test.YtipbcpobnciccaaTimSigC
namespace Go.Proofs.Ytipbcpobnciccaa
open Go.Lite
def s20 : Sig := ⟨[.k (.int .i64), .k (.ro [.int .i64, .int .i64, .int .i64]), .k (.ro [.int .i64]), .k (.int .i64)], [(.tup [.k (.int .i64), .k (.int .i64), .k .bool], [])]⟩
def l20_4 : LSig := mkLS [2, 3, 11, 12, 13] [(64, [(2, .k (.ro [.int .i64])), (3, .k (.int .i64)), (11, .nils), (12, .k (.int .i64)), (13, .k (.int .i64))], []), (64, [(2, .k (.ro [.int .i64])), (3, .k (.int .i64)), (11, .sl 0 3), (12, .k (.int .i64)), (13, .k (.int .i64))], [.row [.int .i64, .int .i64, .int .i64]])] [(.ret, [8, 9, 10], [(64, [(8, .k (.int .i64)), (9, .k (.int .i64)), (10, .k .bool)], [])]), (.exit 0, [3, 12], [(64, [(3, .k (.int .i64)), (12, .k (.int .i64))], [])])]
def s29 : Sig := ⟨[.k (.int .i64), .k (.ro [.int .i64, .int .i64, .int .i64]), .k (.ro [.int .i64])], [(.k .bool, [])]⟩
def s30 : Sig := ⟨[.k (.int .i64), .k (.ro [.int .i64, .int .i64, .int .i64]), .k (.ro [.int .i64])], [(.k .bool, [])]⟩
def l30_6 : LSig := mkLS [2, 7, 8, 25, 26, 27] [(107, [(2, .k (.ro [.int .i64])), (7, .ptr 0 2 0 0), (8, .k (.int .i64)), (25, .k (.ro [.int .i64])), (26, .k (.int .i64)), (27, .k (.int .i64))], [.box [.k (.int .i64), .sl 1 3], .row [.int .i64, .int .i64, .int .i64]]), (107, [(2, .k (.ro [.int .i64])), (7, .ptr 0 2 0 0), (8, .k (.int .i64)), (25, .k (.ro [.int .i64])), (26, .k (.int .i64)), (27, .k (.int .i64))], [.box [.k (.int .i64), .emp 3]])] [(.ret, [6], [(107, [(6, .k .bool)], [])]), (.exit 0, [2, 7, 8], [(107, [(2, .k (.ro [.int .i64])), (7, .ptr 0 2 0 0), (8, .k (.int .i64))], [.box [.k (.int .i64), .sl 1 3], .row [.int .i64, .int .i64, .int .i64]]), (107, [(2, .k (.ro [.int .i64])), (7, .ptr 0 2 0 0), (8, .k (.int .i64))], [.box [.k (.int .i64), .emp 3]])])]
def s21 : Sig := ⟨[.k (.ro [.int .i64]), .k (.ro [.int .i64])], [(.k .bool, [])]⟩
def l21_4 : LSig := mkLS [0, 1, 5] [(26, [(0, .k (.ro [.int .i64])), (1, .k (.ro [.int .i64])), (5, .k (.int .i64))], [])] [(.ret, [4], [(26, [(4, .k .bool)], [])]), (.exit 0, [], [(26, [], [])])]
def s32 : Sig := ⟨[.k (.int .i64), .k (.ro [.int .i64, .int .i64, .int .i64]), .k (.ro [.int .i64])], [(.k .bool, [])]⟩
def l32_4 : LSig := mkLS [0, 1, 2, 7] [(59, [(0, .k (.int .i64)), (1, .k (.ro [.int .i64, .int .i64, .int .i64])), (2, .k (.ro [.int .i64])), (7, .k (.int .i64))], [])] [(.ret, [6], [(59, [(6, .k .bool)], [])]), (.exit 0, [1, 2], [(59, [(1, .k (.ro [.int .i64, .int .i64, .int .i64])), (2, .k (.ro [.int .i64]))], [])])]
def l32_9 : LSig := mkLS [1, 2, 8] [(59, [(1, .k (.ro [.int .i64, .int .i64, .int .i64])), (2, .k (.ro [.int .i64])), (8, .k (.int .i64))], [])] [(.ret, [6], [(59, [(6, .k .bool)], [])]), (.exit 2, [], [(59, [], [])])]
def s15 : Sig := ⟨[.k (.int .i64), .k (.ro [.int .i64, .int .i64, .int .i64])], [(.k .bool, [])]⟩
def s64 : Sig := ⟨[.agg [.k (.int .i64), .k (.int .i64), .k (.int .i64)], .eptr [.k (.ro [.int .i64])]], [(.k .bool, [])]⟩
def s1051 : Sig := ⟨[.k (.ro [.int .i64, .int .i64, .int .i64]), .fn 64 [] [.eptr [.k (.ro [.int .i64])]]], [(.k (.int .i64), [])]⟩
def l1051_2 : LSig := mkLS [0, 1, 7, 8] [(19, [(0, .k (.ro [.int .i64, .int .i64, .int .i64])), (1, .fn 64 [] [.eptr [.k (.ro [.int .i64])]]), (7, .k (.int .i64)), (8, .k (.int .i64))], [])] [(.ret, [4], [(19, [(4, .k (.int .i64))], [])]), (.exit 0, [], [(19, [], [])])]
def s1063 : Sig := ⟨[.k (.ro [.int .i64, .int .i64, .int .i64]), .fn 64 [] [.eptr [.k (.ro [.int .i64])]]], [(.k .bool, [])]⟩
def s62 : Sig := ⟨[.k (.int .i64)], [(.k .bool, [])]⟩
def s80 : Sig := ⟨[.k (.ro [.int .i64]), .fn 62 [] []], [(.k (.int .i64), [])]⟩
def l80_2 : LSig := mkLS [0, 1, 7, 8] [(19, [(0, .k (.ro [.int .i64])), (1, .fn 62 [] []), (7, .k (.int .i64)), (8, .k (.int .i64))], [])] [(.ret, [4], [(19, [(4, .k (.int .i64))], [])]), (.exit 0, [], [(19, [], [])])]
def s61 : Sig := ⟨[.k (.ro [.int .i64]), .fn 62 [] []], [(.k .bool, [])]⟩
def s31 : Sig := ⟨[.k (.int .i64), .k (.ro [.int .i64, .int .i64, .int .i64]), .k (.ro [.int .i64])], [(.k .bool, [])]⟩
end Go.Proofs.Ytipbcpobnciccaa
