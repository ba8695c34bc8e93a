/-
  Shapes of arguments, results and loops. Written by program.
-/
import Derived.Test.YtipbcpobnciccaaTimSigE
namespace Go.Proofs.Ytipbcpobnciccaa
open Go.Lite
def s66 : Sig := ⟨[.k (.int .i64)], [(.k .bool, [])]⟩
def s1080 : Sig := ⟨[.k (.ro [.int .i64]), .fn 66 [] []], [(.k (.int .i64), [])]⟩
def l1080_2 : LSig := mkLS [0, 1, 7, 8] [(19, [(0, .k (.ro [.int .i64])), (1, .fn 66 [] []), (7, .k (.int .i64)), (8, .k (.int .i64))], [])] [(.ret, [4], [(19, [(4, .k (.int .i64))], [])]), (.exit 0, [], [(19, [], [])])]
def s1061 : Sig := ⟨[.k (.ro [.int .i64]), .fn 66 [] []], [(.k .bool, [])]⟩
def s35 : Sig := ⟨[.k (.ro [.int .i64]), .k (.int .i64)], [(.k .bool, [])]⟩
def l35_2 : LSig := mkLS [0, 1, 5] [(34, [(0, .k (.ro [.int .i64])), (1, .k (.int .i64)), (5, .k (.int .i64))], [])] [(.ret, [4], [(34, [(4, .k .bool)], [])]), (.exit 0, [0, 1], [(34, [(0, .k (.ro [.int .i64])), (1, .k (.int .i64))], [])])]
def s67 : Sig := ⟨[.k (.ro [.int .i64])], [(.sl 0 1, [.row [.int .i64]]), (.emp 1, [])]⟩
def s34 : Sig := ⟨[.k (.int .i64), .k (.ro [.int .i64, .int .i64, .int .i64]), .k (.ro [.int .i64])], [(.tup [.nils, .k (.int .i64)], []), (.tup [.sl 0 1, .k (.int .i64)], [.row [.int .i64]])]⟩
end Go.Proofs.Ytipbcpobnciccaa
