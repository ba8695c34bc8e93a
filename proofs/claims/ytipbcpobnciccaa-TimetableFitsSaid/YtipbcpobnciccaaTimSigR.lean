/-
  Shapes of arguments, results and loops. Written by program.
-/
import Derived.Test.YtipbcpobnciccaaTimR0
namespace Go.Proofs.Ytipbcpobnciccaa
open Go.Lite
def s48 : Sig := ⟨[.k (.int .i64), .k (.int .i64), .k (.int .i64)], [(.k .bool, [])]⟩
def s54 : Sig := ⟨[.k (.int .i64), .k (.int .i64), .k (.int .i64)], [(.k .bool, [])]⟩
def s16 : Sig := ⟨[], [(.k .bool, [])]⟩
def s86 : Sig := ⟨[.agg [.k (.int .i64), .k (.int .i64), .k (.int .i64)]], [(.k .bool, [])]⟩
def s88 : Sig := ⟨[.k (.ro [.int .i64, .int .i64, .int .i64]), .fn 86 [] []], [(.k (.int .i64), [])]⟩
def l88_2 : LSig := mkLS [0, 1, 7, 8] [(19, [(0, .k (.ro [.int .i64, .int .i64, .int .i64])), (1, .fn 86 [] []), (7, .k (.int .i64)), (8, .k (.int .i64))], [])] [(.ret, [4], [(19, [(4, .k (.int .i64))], [])]), (.exit 0, [], [(19, [], [])])]
def s85 : Sig := ⟨[.k (.ro [.int .i64, .int .i64, .int .i64]), .fn 86 [] []], [(.k .bool, [])]⟩
def s71 : Sig := ⟨[.agg [.k (.int .i64), .k (.int .i64), .k (.int .i64), .k (.int .i64), .k .bool, .k (.int .i64), .k (.int .i64), .k (.ro [.int .i64, .int .i64, .int .i64])], .nilp], [(.k .bool, [])]⟩
def s1071 : Sig := ⟨[.agg [.k (.int .i64), .k (.int .i64), .k (.int .i64), .k (.int .i64), .k .bool, .k (.int .i64), .k (.int .i64), .k (.ro [.int .i64, .int .i64, .int .i64])], .eptr [.k (.int .i64), .k (.int .i64), .k (.int .i64), .k (.int .i64), .k .bool, .k (.int .i64), .k (.int .i64), .k (.ro [.int .i64, .int .i64, .int .i64])]], [(.k .bool, [])]⟩
def s41 : Sig := ⟨[.agg [.k (.int .i64), .k (.int .i64), .k (.ro [.int .i64, .int .i64, .int .i64, .int .i64, .bool, .int .i64, .int .i64, .ro [.int .i64, .int .i64, .int .i64]])]], [(.k (.int .i64), [])]⟩
def l41_5 : LSig := mkLS [1, 3, 24, 25, 26] [(40, [(1, .ptr 0 3 0 0), (3, .nilp), (24, .k (.ro [.int .i64, .int .i64, .int .i64, .int .i64, .bool, .int .i64, .int .i64, .ro [.int .i64, .int .i64, .int .i64]])), (25, .k (.int .i64)), (26, .k (.int .i64))], [.box [.k (.int .i64), .k (.int .i64), .k (.ro [.int .i64, .int .i64, .int .i64, .int .i64, .bool, .int .i64, .int .i64, .ro [.int .i64, .int .i64, .int .i64]])]]), (40, [(1, .ptr 0 3 0 0), (3, .eptr [.k (.int .i64), .k (.int .i64), .k (.int .i64), .k (.int .i64), .k .bool, .k (.int .i64), .k (.int .i64), .k (.ro [.int .i64, .int .i64, .int .i64])]), (24, .k (.ro [.int .i64, .int .i64, .int .i64, .int .i64, .bool, .int .i64, .int .i64, .ro [.int .i64, .int .i64, .int .i64]])), (25, .k (.int .i64)), (26, .k (.int .i64))], [.box [.k (.int .i64), .k (.int .i64), .k (.ro [.int .i64, .int .i64, .int .i64, .int .i64, .bool, .int .i64, .int .i64, .ro [.int .i64, .int .i64, .int .i64]])]])] [(.ret, [2], [(40, [(2, .k (.int .i64))], [])]), (.exit 0, [], [(40, [], [])])]
def s84 : Sig := ⟨[.k (.int .i64)], [(.k .bool, [])]⟩
def s87 : Sig := ⟨[.k (.int .i64), .eptr [.fn 84 [] []]], [(.k .bool, [])]⟩
def s2080 : Sig := ⟨[.k (.ro [.int .i64]), .fn 87 [] [.eptr [.fn 84 [] []]]], [(.k (.int .i64), [])]⟩
def l2080_2 : LSig := mkLS [0, 1, 7, 8] [(19, [(0, .k (.ro [.int .i64])), (1, .fn 87 [] [.eptr [.fn 84 [] []]]), (7, .k (.int .i64)), (8, .k (.int .i64))], [])] [(.ret, [4], [(19, [(4, .k (.int .i64))], [])]), (.exit 0, [], [(19, [], [])])]
def s2061 : Sig := ⟨[.k (.ro [.int .i64]), .fn 87 [] [.eptr [.fn 84 [] []]]], [(.k .bool, [])]⟩
def s83 : Sig := ⟨[.k (.ro [.int .i64]), .fn 84 [] []], [(.k .bool, [])]⟩
def s70 : Sig := ⟨[.k (.ro [.int .i64]), .k (.int .i64)], [(.k .bool, [])]⟩
def s73 : Sig := ⟨[.agg [.k (.int .i64), .k (.int .i64), .k (.ro [.int .i64, .int .i64, .int .i64, .int .i64, .bool, .int .i64, .int .i64, .ro [.int .i64, .int .i64, .int .i64]])], .k (.int .i64)], [(.k (.int .i64), [])]⟩
def s60 : Sig := ⟨[.agg [.k (.int .i64), .k (.int .i64), .k (.ro [.int .i64, .int .i64, .int .i64, .int .i64, .bool, .int .i64, .int .i64, .ro [.int .i64, .int .i64, .int .i64]])], .k (.int .i64)], [(.k (.int .i64), [])]⟩
def s59 : Sig := ⟨[.k (.ro [.int .i64]), .k (.int .i64)], [(.k .bool, [])]⟩
def l59_2 : LSig := mkLS [0, 1, 5] [(22, [(0, .k (.ro [.int .i64])), (1, .k (.int .i64)), (5, .k (.int .i64))], [])] [(.ret, [4], [(22, [(4, .k .bool)], [])]), (.exit 0, [0, 1], [(22, [(0, .k (.ro [.int .i64])), (1, .k (.int .i64))], [])])]
def s25 : Sig := ⟨[.agg [.k (.int .i64), .k (.int .i64), .k (.ro [.int .i64, .int .i64, .int .i64, .int .i64, .bool, .int .i64, .int .i64, .ro [.int .i64, .int .i64, .int .i64]])]], [(.k .bool, [])]⟩
def l25_4 : LSig := mkLS [1, 3] [(37, [(1, .ptr 0 3 0 0), (3, .k (.int .i64))], [.box [.k (.int .i64), .k (.int .i64), .k (.ro [.int .i64, .int .i64, .int .i64, .int .i64, .bool, .int .i64, .int .i64, .ro [.int .i64, .int .i64, .int .i64]])]])] [(.ret, [2], [(37, [(2, .k .bool)], [])]), (.exit 0, [], [(37, [], [])])]
def s37 : Sig := ⟨[.agg [.k (.ro [.int .i64]), .k (.ro [.int .i64]), .k (.ro [.int .i64]), .k (.ro [.int .i64])]], [(.k .bool, [])]⟩
end Go.Proofs.Ytipbcpobnciccaa
