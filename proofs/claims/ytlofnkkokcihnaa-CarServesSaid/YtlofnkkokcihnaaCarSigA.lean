/-
  Shapes of arguments, results and loops. Written by program.
-/
import Derived.Test.YtlofnkkokcihnaaCfg
import Derived.Test.YtlofnkkokcihnaaSym
namespace Go.Proofs.Ytlofnkkokcihnaa
open Go.Lite

def s47 : Sig := ⟨[.k (.int .i64), .k (.int .i64), .k (.int .i64)], [(.k .bool, [])]⟩

def s50 : Sig := ⟨[.k (.int .i64), .k (.int .i64), .k (.int .i64)], [(.k .bool, [])]⟩

def s75 : Sig := ⟨[.k (.ro [.int .i64, .int .i64])], [(.k .bool, [])]⟩
def l75_2 : LSig := mkLS [0, 5, 6, 7] [(41, [(0, .k (.ro [.int .i64, .int .i64])), (5, .k (.ro [.int .i64, .int .i64])), (6, .k (.int .i64)), (7, .k (.int .i64))], [])] [(.ret, [2], [(41, [(2, .k .bool)], [])]), (.exit 0, [0], [(41, [(0, .k (.ro [.int .i64, .int .i64]))], [])])]

def s74 : Sig := ⟨[.k (.ro [.int .i64, .int .i64])], [(.k .bool, [])]⟩

def s78 : Sig := ⟨[.k (.int .i64)], [(.k .bool, [])]⟩
def s98 : Sig := ⟨[.k (.ro [.ro [.int .i64, .int .i64]]), .fn 74 [] []], [(.k (.int .i64), [])]⟩
def l98_2 : LSig := mkLS [0, 1, 7, 8] [(19, [(0, .k (.ro [.ro [.int .i64, .int .i64]])), (1, .fn 74 [] []), (7, .k (.int .i64)), (8, .k (.int .i64))], [])] [(.ret, [4], [(19, [(4, .k (.int .i64))], [])]), (.exit 0, [], [(19, [], [])])]
def s99 : Sig := ⟨[.k (.ro [.int .i64]), .fn 78 [] []], [(.k (.int .i64), [])]⟩
def l99_2 : LSig := mkLS [0, 1, 7, 8] [(19, [(0, .k (.ro [.int .i64])), (1, .fn 78 [] []), (7, .k (.int .i64)), (8, .k (.int .i64))], [])] [(.ret, [4], [(19, [(4, .k (.int .i64))], [])]), (.exit 0, [], [(19, [], [])])]
def s76 : Sig := ⟨[.k (.ro [.ro [.int .i64, .int .i64]]), .fn 74 [] []], [(.k .bool, [])]⟩
def s77 : Sig := ⟨[.k (.ro [.int .i64]), .fn 78 [] []], [(.k .bool, [])]⟩

def s46 : Sig := ⟨[.agg [.k (.ro [.ro [.int .i64, .int .i64]]), .k (.ro [.ro [.int .i64, .int .i64]]), .k (.ro [.int .i64]), .k (.int .i64)]], [(.k .bool, [])]⟩

def s79 : Sig := ⟨[.agg [.k (.ro [.ro [.int .i64, .int .i64]]), .k (.ro [.ro [.int .i64, .int .i64]]), .k (.ro [.int .i64]), .k (.int .i64)], .k (.int .i64), .k (.int .i64), .k .bool], [(.k (.int .i64), [])]⟩
def l79_7 : LSig := mkLS [2, 9, 10] [(79, [(2, .k (.int .i64)), (9, .k (.ro [.int .i64, .int .i64])), (10, .k (.int .i64))], [])] [(.ret, [8], [(79, [(8, .k (.int .i64))], [])]), (.exit 0, [9], [(79, [(9, .k (.ro [.int .i64, .int .i64]))], [])])]

def s48 : Sig := ⟨[.agg [.k (.ro [.ro [.int .i64, .int .i64]]), .k (.ro [.ro [.int .i64, .int .i64]]), .k (.ro [.int .i64]), .k (.int .i64)], .k (.int .i64), .k (.int .i64), .k .bool, .k (.int .i64)], [(.k (.int .i64), [])]⟩

def s17 : Sig := ⟨[.agg [.k (.ro [.ro [.int .i64, .int .i64]]), .k (.ro [.ro [.int .i64, .int .i64]]), .k (.ro [.int .i64]), .k (.int .i64)], .k (.int .i64), .k (.int .i64), .k .bool, .k (.int .i64)], [(.tup [.k (.int .i64), .k (.int .i64)], [])]⟩

def s49 : Sig := ⟨[.k (.ro [.ro [.int .i64, .int .i64]]), .k (.int .i64)], [(.k .bool, [])]⟩
def l49_4 : LSig := mkLS [0, 1, 5] [(75, [(0, .k (.ro [.ro [.int .i64, .int .i64]])), (1, .k (.int .i64)), (5, .k (.int .i64))], [])] [(.ret, [4], [(75, [(4, .k .bool)], [])]), (.exit 0, [], [(75, [], [])])]
def l49_9 : LSig := mkLS [0, 1, 5, 6] [(75, [(0, .k (.ro [.ro [.int .i64, .int .i64]])), (1, .k (.int .i64)), (5, .k (.int .i64)), (6, .k (.int .i64))], [])] [(.ret, [4], [(75, [(4, .k .bool)], [])]), (.exit 2, [0, 1, 5], [(75, [(0, .k (.ro [.ro [.int .i64, .int .i64]])), (1, .k (.int .i64)), (5, .k (.int .i64))], [])])]

def s18 : Sig := ⟨[.agg [.k (.ro [.ro [.int .i64, .int .i64]]), .k (.ro [.ro [.int .i64, .int .i64]]), .k (.ro [.int .i64]), .k (.int .i64)]], [(.k .bool, [])]⟩
def l18_5 : LSig := mkLS [1, 3, 4] [(53, [(1, .ptr 0 4 0 0), (3, .k (.int .i64)), (4, .k (.int .i64))], [.box [.k (.ro [.ro [.int .i64, .int .i64]]), .k (.ro [.ro [.int .i64, .int .i64]]), .k (.ro [.int .i64]), .k (.int .i64)]])] [(.ret, [2], [(53, [(2, .k .bool)], [])]), (.exit 0, [], [(53, [], [])])]

def s51 : Sig := ⟨[.k (.ro [.int .i64, .int .i64]), .k (.int .i64)], [(.k (.int .i64), [])]⟩
def l51_4 : LSig := mkLS [0, 1, 5] [(63, [(0, .k (.ro [.int .i64, .int .i64])), (1, .k (.int .i64)), (5, .k (.int .i64))], [])] [(.ret, [4], [(63, [(4, .k (.int .i64))], [])]), (.exit 0, [0], [(63, [(0, .k (.ro [.int .i64, .int .i64]))], [])])]

def s19 : Sig := ⟨[.agg [.k (.ro [.ro [.int .i64, .int .i64]]), .k (.ro [.ro [.int .i64, .int .i64]]), .k (.ro [.int .i64]), .k (.int .i64)], .k (.int .i64), .k (.int .i64), .k .bool, .k (.int .i64)], [(.k (.int .i64), [])]⟩

def s15 : Sig := ⟨[.agg [.k (.ro [.ro [.int .i64, .int .i64]]), .k (.ro [.ro [.int .i64, .int .i64]]), .k (.ro [.int .i64]), .k (.int .i64)]], [(.k .bool, [])]⟩
def l15_4 : LSig := mkLS [1, 3] [(49, [(1, .ptr 0 4 0 0), (3, .k (.int .i64))], [.box [.k (.ro [.ro [.int .i64, .int .i64]]), .k (.ro [.ro [.int .i64, .int .i64]]), .k (.ro [.int .i64]), .k (.int .i64)]])] [(.ret, [2], [(49, [(2, .k .bool)], [])]), (.exit 0, [1], [(49, [(1, .ptr 0 4 0 0)], [.box [.k (.ro [.ro [.int .i64, .int .i64]]), .k (.ro [.ro [.int .i64, .int .i64]]), .k (.ro [.int .i64]), .k (.int .i64)]])])]
def l15_9 : LSig := mkLS [1, 4] [(49, [(1, .ptr 0 4 0 0), (4, .k (.int .i64))], [.box [.k (.ro [.ro [.int .i64, .int .i64]]), .k (.ro [.ro [.int .i64, .int .i64]]), .k (.ro [.int .i64]), .k (.int .i64)]])] [(.ret, [2], [(49, [(2, .k .bool)], [])]), (.exit 2, [], [(49, [], [])])]
end Go.Proofs.Ytlofnkkokcihnaa
