/-
  Shapes of arguments, results and loops. Written by program.
-/
import Derived.Test.YtlofnkkokcihnaaCarTabA
namespace Go.Proofs.Ytlofnkkokcihnaa
open Go.Lite
def s92 : Sig := ⟨[.agg [.k (.int .i64), .k (.int .i64), .k (.int .i64), .k .bool], .eptr [.k (.int .i64)]], [(.k .bool, [])]⟩
def s104 : Sig := ⟨[.k (.ro [.int .i64, .int .i64, .int .i64, .bool]), .fn 92 [] [.eptr [.k (.int .i64)]]], [(.k (.int .i64), [])]⟩
def l104_2 : LSig := mkLS [0, 1, 7, 8] [(19, [(0, .k (.ro [.int .i64, .int .i64, .int .i64, .bool])), (1, .fn 92 [] [.eptr [.k (.int .i64)]]), (7, .k (.int .i64)), (8, .k (.int .i64))], [])] [(.ret, [4], [(19, [(4, .k (.int .i64))], [])]), (.exit 0, [], [(19, [], [])])]
def s91 : Sig := ⟨[.k (.ro [.int .i64, .int .i64, .int .i64, .bool]), .fn 92 [] [.eptr [.k (.int .i64)]]], [(.k .bool, [])]⟩
def s69 : Sig := ⟨[.k (.ro [.int .i64, .int .i64, .int .i64, .bool]), .k (.int .i64)], [(.k .bool, [])]⟩
def s70 : Sig := ⟨[.agg [.k (.ro [.ro [.int .i64, .int .i64]]), .k (.ro [.ro [.int .i64, .int .i64]]), .k (.ro [.int .i64]), .k (.int .i64)], .k (.ro [.int .i64, .int .i64, .int .i64, .bool]), .k (.int .i64)], [(.tup [.k (.int .i64), .k (.int .i64), .k .bool], [])]⟩
def l70_3 : LSig := mkLS [2, 3, 9, 10, 13, 14, 15] [(52, [(2, .k (.int .i64)), (3, .ptr 0 4 0 0), (9, .k (.int .i64)), (10, .k .bool), (13, .k (.ro [.int .i64, .int .i64, .int .i64, .bool])), (14, .k (.int .i64)), (15, .k (.int .i64))], [.box [.k (.ro [.ro [.int .i64, .int .i64]]), .k (.ro [.ro [.int .i64, .int .i64]]), .k (.ro [.int .i64]), .k (.int .i64)]])] [(.exit 0, [2, 9, 10], [(52, [(2, .k (.int .i64)), (9, .k (.int .i64)), (10, .k .bool)], [])])]
def s35 : Sig := ⟨[.agg [.k (.ro [.ro [.int .i64, .int .i64]]), .k (.ro [.ro [.int .i64, .int .i64]]), .k (.ro [.int .i64]), .k (.int .i64)], .k (.ro [.int .i64, .int .i64, .int .i64, .bool]), .k (.int .i64)], [(.tup [.k (.int .i64), .k (.int .i64), .k (.int .i64)], [])]⟩
def s36 : Sig := ⟨[.agg [.k (.ro [.ro [.int .i64, .int .i64]]), .k (.ro [.ro [.int .i64, .int .i64]]), .k (.ro [.int .i64]), .k (.int .i64)], .k (.ro [.int .i64, .int .i64, .int .i64, .bool]), .k (.int .i64)], [(.tup [.k .bool, .k (.int .i64)], [])]⟩
def s37 : Sig := ⟨[.k (.ro [.int .i64, .int .i64, .int .i64, .bool]), .k (.int .i64)], [(.k .bool, [])]⟩
def l37_2 : LSig := mkLS [0, 1, 5] [(42, [(0, .k (.ro [.int .i64, .int .i64, .int .i64, .bool])), (1, .k (.int .i64)), (5, .k (.int .i64))], [])] [(.ret, [4], [(42, [(4, .k .bool)], [])]), (.exit 0, [0], [(42, [(0, .k (.ro [.int .i64, .int .i64, .int .i64, .bool]))], [])])]
def s38 : Sig := ⟨[.agg [.k (.ro [.ro [.int .i64, .int .i64]]), .k (.ro [.ro [.int .i64, .int .i64]]), .k (.ro [.int .i64]), .k (.int .i64)], .k (.ro [.int .i64, .int .i64, .int .i64, .bool]), .k (.int .i64)], [(.tup [.k (.int .i64), .k (.int .i64)], [])]⟩
def l38_3 : LSig := mkLS [1, 2, 3, 8, 9] [(51, [(1, .k (.ro [.int .i64, .int .i64, .int .i64, .bool])), (2, .k (.int .i64)), (3, .ptr 0 4 0 0), (8, .k (.int .i64)), (9, .k (.int .i64))], [.box [.k (.ro [.ro [.int .i64, .int .i64]]), .k (.ro [.ro [.int .i64, .int .i64]]), .k (.ro [.int .i64]), .k (.int .i64)]])] [(.exit 0, [2, 8], [(51, [(2, .k (.int .i64)), (8, .k (.int .i64))], [])])]
def s39 : Sig := ⟨[.agg [.k (.ro [.ro [.int .i64, .int .i64]]), .k (.ro [.ro [.int .i64, .int .i64]]), .k (.ro [.int .i64]), .k (.int .i64)], .k (.ro [.int .i64, .int .i64, .int .i64, .bool])], [(.k (.int .i64), [])]⟩
def l39_3 : LSig := mkLS [1, 2, 5, 6] [(31, [(1, .k (.ro [.int .i64, .int .i64, .int .i64, .bool])), (2, .ptr 0 4 0 0), (5, .k (.int .i64)), (6, .k (.int .i64))], [.box [.k (.ro [.ro [.int .i64, .int .i64]]), .k (.ro [.ro [.int .i64, .int .i64]]), .k (.ro [.int .i64]), .k (.int .i64)]])] [(.exit 0, [5], [(31, [(5, .k (.int .i64))], [])])]
end Go.Proofs.Ytlofnkkokcihnaa
