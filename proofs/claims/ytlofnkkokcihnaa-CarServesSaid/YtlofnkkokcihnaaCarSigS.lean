/-
  Shapes of arguments, results and loops. Written by program.
-/
import Derived.Test.YtlofnkkokcihnaaCarTabA
namespace Go.Proofs.Ytlofnkkokcihnaa
open Go.Lite
def s88 : Sig := ⟨[.agg [.k (.int .i64), .k (.int .i64), .k (.int .i64)]], [(.k .bool, [])]⟩
def s102 : Sig := ⟨[.k (.ro [.int .i64, .int .i64, .int .i64]), .fn 88 [] []], [(.k (.int .i64), [])]⟩
def l102_2 : LSig := mkLS [0, 1, 7, 8] [(19, [(0, .k (.ro [.int .i64, .int .i64, .int .i64])), (1, .fn 88 [] []), (7, .k (.int .i64)), (8, .k (.int .i64))], [])] [(.ret, [4], [(19, [(4, .k (.int .i64))], [])]), (.exit 0, [], [(19, [], [])])]
def s87 : Sig := ⟨[.k (.ro [.int .i64, .int .i64, .int .i64]), .fn 88 [] []], [(.k .bool, [])]⟩
def s58 : Sig := ⟨[.k (.int .i64), .k (.int .i64), .k (.int .i64), .k (.ro [.int .i64, .int .i64, .int .i64])], [(.k .bool, [])]⟩
def s59 : Sig := ⟨[.k (.int .i64), .k (.int .i64), .k (.int .i64), .k (.ro [.int .i64, .int .i64, .int .i64]), .k (.ro [.int .i64])], [(.k .bool, [])]⟩
def l59_3 : LSig := mkLS [0, 1, 4, 11, 12, 17, 18, 19] [(51, [(0, .k (.int .i64)), (1, .k (.int .i64)), (4, .k (.ro [.int .i64])), (11, .k (.int .i64)), (12, .k (.int .i64)), (17, .k (.ro [.int .i64, .int .i64, .int .i64])), (18, .k (.int .i64)), (19, .k (.int .i64))], [])] [(.ret, [10], [(51, [(10, .k .bool)], [])]), (.exit 0, [], [(51, [], [])])]
def s32 : Sig := ⟨[.k (.int .i64), .k (.int .i64), .k (.int .i64), .k (.ro [.int .i64, .int .i64, .int .i64]), .k (.ro [.int .i64])], [(.k .bool, [])]⟩
def l32_4 : LSig := mkLS [0, 1, 2, 3, 4, 26, 27, 28] [(48, [(0, .k (.int .i64)), (1, .k (.int .i64)), (2, .k (.int .i64)), (3, .k (.ro [.int .i64, .int .i64, .int .i64])), (4, .k (.ro [.int .i64])), (26, .k (.ro [.int .i64])), (27, .k (.int .i64)), (28, .k (.int .i64))], [])] [(.ret, [10], [(48, [(10, .k .bool)], [])]), (.exit 0, [0, 1, 2, 3, 4], [(48, [(0, .k (.int .i64)), (1, .k (.int .i64)), (2, .k (.int .i64)), (3, .k (.ro [.int .i64, .int .i64, .int .i64])), (4, .k (.ro [.int .i64]))], [])])]
def s26 : Sig := ⟨[.k (.int .i64), .k (.int .i64), .k (.int .i64), .k (.ro [.int .i64, .int .i64, .int .i64])], [(.k .bool, [])]⟩
def l26_4 : LSig := mkLS [3, 9] [(72, [(3, .k (.ro [.int .i64, .int .i64, .int .i64])), (9, .k (.int .i64))], [])] [(.ret, [8], [(72, [(8, .k .bool)], [])]), (.exit 0, [], [(72, [], [])])]
def s33 : Sig := ⟨[.k (.int .i64), .k (.int .i64), .k (.int .i64), .k (.ro [.int .i64, .int .i64, .int .i64]), .k (.ro [.int .i64])], [(.k .bool, [])]⟩
def l33_5 : LSig := mkLS [0, 1, 3, 4, 11, 12, 13] [(70, [(0, .k (.int .i64)), (1, .k (.int .i64)), (3, .k (.ro [.int .i64, .int .i64, .int .i64])), (4, .k (.ro [.int .i64])), (11, .k (.int .i64)), (12, .k (.int .i64)), (13, .k (.int .i64))], [])] [(.ret, [10], [(70, [(10, .k .bool)], [])]), (.exit 0, [], [(70, [], [])])]
def s34 : Sig := ⟨[.k (.ro [.int .i64])], [(.k (.int .i64), [])]⟩
def l34_3 : LSig := mkLS [0, 3, 4] [(18, [(0, .k (.ro [.int .i64])), (3, .k (.int .i64)), (4, .k (.int .i64))], [])] [(.exit 0, [3], [(18, [(3, .k (.int .i64))], [])])]
def s24 : Sig := ⟨[.k (.ro [.int .i64]), .k (.ro [.int .i64])], [(.k .bool, [])]⟩
def l24_4 : LSig := mkLS [0, 1, 5] [(26, [(0, .k (.ro [.int .i64])), (1, .k (.ro [.int .i64])), (5, .k (.int .i64))], [])] [(.ret, [4], [(26, [(4, .k .bool)], [])]), (.exit 0, [], [(26, [], [])])]
end Go.Proofs.Ytlofnkkokcihnaa
