/-
  Shapes of arguments, results and loops. Written by program.
-/
import Derived.Test.YtipbcpobnciccaaSymGo
import Derived.Test.YtipbcpobnciccaaCfg
namespace Go.Proofs.Ytipbcpobnciccaa
open Go.Lite
def s48 : Sig := ⟨[.k (.int .i64), .k (.int .i64), .k (.int .i64)], [(.k .bool, [])]⟩
def s54 : Sig := ⟨[.k (.int .i64), .k (.int .i64), .k (.int .i64)], [(.k .bool, [])]⟩
def s74 : Sig := ⟨[.agg [.k (.int .i64), .k (.int .i64), .k (.int .i64)], .eptr [.k (.int .i64)]], [(.k .bool, [])]⟩
def s51 : Sig := ⟨[.k (.ro [.int .i64, .int .i64, .int .i64]), .fn 74 [] [.eptr [.k (.int .i64)]]], [(.k (.int .i64), [])]⟩
def l51_2 : LSig := mkLS [0, 1, 7, 8] [(19, [(0, .k (.ro [.int .i64, .int .i64, .int .i64])), (1, .fn 74 [] [.eptr [.k (.int .i64)]]), (7, .k (.int .i64)), (8, .k (.int .i64))], [])] [(.ret, [4], [(19, [(4, .k (.int .i64))], [])]), (.exit 0, [], [(19, [], [])])]
def s63 : Sig := ⟨[.k (.ro [.int .i64, .int .i64, .int .i64]), .fn 74 [] [.eptr [.k (.int .i64)]]], [(.k .bool, [])]⟩
def s47 : Sig := ⟨[.k (.int .i64), .k (.ro [.int .i64, .int .i64, .int .i64])], [(.k .bool, [])]⟩
def s18 : Sig := ⟨[.k (.int .i64), .k (.ro [.int .i64, .int .i64, .int .i64])], [(.k .bool, [])]⟩
def l18_4 : LSig := mkLS [0, 1, 5] [(45, [(0, .k (.int .i64)), (1, .k (.ro [.int .i64, .int .i64, .int .i64])), (5, .k (.int .i64))], [])] [(.ret, [4], [(45, [(4, .k .bool)], [])]), (.exit 0, [], [(45, [], [])])]
def s75 : Sig := ⟨[.k (.ro [.int .i64, .int .i64, .int .i64])], [(.sl 0 3, [.row [.int .i64, .int .i64, .int .i64]]), (.emp 3, [])]⟩
end Go.Proofs.Ytipbcpobnciccaa
