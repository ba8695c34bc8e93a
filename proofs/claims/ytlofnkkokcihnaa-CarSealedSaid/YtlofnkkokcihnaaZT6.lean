/-
  What the claim car_sealed rests on, part 6.
-/
import Derived.Test.YtlofnkkokcihnaaZT5
import Derived.Test.YtlofnkkokcihnaaProg
namespace Go.Proofs.Ytlofnkkokcihnaa
open Go.Lite
def annL : List (Nat × Nat × List Nat) :=
  [(8, 11, [0, 1, 3, 4, 5, 13, 14, 16, 17]),
   (8, 27, [4, 14, 19]),
   (13, 10, [3, 6, 8]),
   (14, 8, [0, 1, 5, 8, 9, 11]),
   (14, 11, [0, 1, 5, 8, 9, 11, 12]),
   (14, 16, [0, 1, 5, 8, 13]),
   (14, 23, [0, 14]),
   (14, 28, [0, 14, 15, 16]),
   (15, 4, [1, 3]),
   (15, 9, [1, 4]),
   (18, 5, [1, 3, 4]),
   (20, 4, [0, 1, 5]),
   (20, 9, [1, 6]),
   (21, 8, [3, 4, 6, 7, 8, 9, 29]),
   (21, 10, [3, 4, 6, 7, 8, 9, 10, 11, 12, 29, 34, 35]),
   (21, 14, [3, 4, 6, 7, 8, 9, 10, 11, 12, 13, 14, 29, 34, 35, 38, 39, 40]),
   (22, 4, [0, 1, 7]),
   (22, 9, [0, 1, 8]),
   (23, 4, [0, 1, 2, 6, 8, 9, 10, 11]),
   (24, 4, [0, 1, 5]),
   (25, 8, [0, 1, 2, 3, 10, 11, 12, 13, 34, 35, 36]),
   (25, 15, [0, 1, 2, 3, 10, 11, 16]),
   (25, 21, [0, 1, 2, 3, 17, 18, 81, 82, 83]),
   (26, 4, [3, 9]),
   (27, 3, [0, 1, 2, 3, 10, 11]),
   (27, 7, [0, 1, 2, 3, 10, 11, 12, 13]),
   (27, 11, [0, 1, 2, 3, 10, 11, 12, 14]),
   (27, 16, [0, 1, 2, 3, 10, 11, 12, 14, 15, 16, 17]),
   (28, 2, [0, 3]),
   (29, 6, [0, 1, 6, 7, 22, 23]),
   (30, 4, [0, 5]),
   (30, 9, [0, 5, 6]),
   (31, 4, [0, 1, 6, 7, 8]),
   (31, 8, [0, 1, 6, 7, 8, 9, 10]),
   (32, 4, [0, 1, 2, 3, 4, 26, 27, 28]),
   (33, 5, [0, 1, 3, 4, 11, 12, 13]),
   (34, 3, [0, 3, 4]),
   (37, 2, [0, 1, 5]),
   (38, 3, [1, 2, 3, 8, 9]),
   (39, 3, [1, 2, 5, 6]),
   (40, 5, [0, 1, 7, 10, 39, 40, 41]),
   (40, 15, [0, 1, 7, 13, 60, 61, 62]),
   (41, 4, [0, 1, 7, 10]),
   (41, 11, [0, 1, 7, 11, 12, 13, 14]),
   (42, 4, [0, 16, 17, 18]),
   (42, 11, [0, 7, 68]),
   (42, 17, [7, 9, 82, 83, 84]),
   (43, 4, [0, 3]),
   (44, 4, [0, 4, 5, 6, 7]),
   (44, 8, [0, 4, 5, 6, 8]),
   (49, 4, [0, 1, 5]),
   (49, 9, [0, 1, 5, 6]),
   (51, 4, [0, 1, 5]),
   (54, 3, [2, 3, 4, 10, 11, 17, 18, 19]),
   (55, 3, [1, 4, 5, 12, 13, 14]),
   (57, 3, [0, 1, 2, 7, 8]),
   (57, 8, [0, 1, 2, 7, 8, 9, 10, 11]),
   (57, 11, [0, 1, 2, 7, 8, 9, 10, 11, 12]),
   (59, 3, [0, 1, 4, 11, 12, 17, 18, 19]),
   (60, 2, [0, 7, 8, 9]),
   (60, 7, [0, 3, 4, 7, 8, 9, 25, 26, 27]),
   (62, 2, [0, 1, 9, 10, 11]),
   (63, 3, [0, 3, 4]),
   (64, 3, [1, 2, 9, 10, 15, 16, 17]),
   (64, 9, [1, 2, 9, 10, 12, 15, 16, 17, 30, 31, 32]),
   (65, 3, [1, 4, 5, 12, 13, 14]),
   (66, 3, [0, 1, 2, 7, 8]),
   (66, 10, [0, 1, 2, 7, 8, 9, 10]),
   (66, 15, [0, 1, 2, 7, 11]),
   (67, 3, [0, 1, 6, 7, 8]),
   (68, 2, [0, 1, 5]),
   (70, 3, [2, 3, 9, 10, 13, 14, 15]),
   (73, 7, [0, 1, 9, 10]),
   (75, 2, [0, 5, 6, 7]),
   (79, 7, [2, 9, 10]),
   (85, 4, [0, 1, 5, 21, 22]),
   (86, 3, [0, 1, 5, 6]),
   (86, 7, [0, 1, 5, 6, 7, 8]),
   (86, 10, [0, 1, 5, 6, 7, 8, 9]),
   (90, 2, [0, 1, 5]),
   (98, 2, [0, 1, 7, 8]),
   (99, 2, [0, 1, 7, 8]),
   (100, 2, [0, 1, 7, 8]),
   (101, 2, [0, 1, 7, 8]),
   (102, 2, [0, 1, 7, 8]),
   (104, 2, [0, 1, 7, 8])]
def annXL : List (Nat × Nat × Option Nat × List Nat) :=
  [(8, 11, some 0, [4, 13, 14]),
   (8, 11, none, [12]),
   (8, 27, some 2, []),
   (8, 27, none, [12]),
   (13, 10, some 0, []),
   (13, 10, none, [2]),
   (14, 8, some 0, [0, 1, 5, 8]),
   (14, 8, none, [4]),
   (14, 11, some 2, [0, 1, 5, 8, 9, 11]),
   (14, 11, none, [4]),
   (14, 16, some 4, [0, 5]),
   (14, 16, none, [4]),
   (14, 23, some 6, []),
   (14, 23, none, [4]),
   (14, 28, some 8, [0, 14, 15]),
   (14, 28, none, [4]),
   (15, 4, some 0, [1]),
   (15, 4, none, [2]),
   (15, 9, some 2, []),
   (15, 9, none, [2]),
   (18, 5, some 0, []),
   (18, 5, none, [2]),
   (20, 4, some 0, [1]),
   (20, 4, none, [4]),
   (20, 9, some 2, []),
   (20, 9, none, [4]),
   (21, 10, some 1, [3, 4, 6, 7, 8, 9, 29]),
   (21, 10, some 2, [3, 4, 6, 7, 8, 9, 11, 12, 29]),
   (21, 10, none, [6, 7]),
   (21, 14, some 4, [3, 4, 6, 7, 8, 9, 10, 11, 12, 14, 29, 34, 35]),
   (21, 14, none, [6, 7]),
   (22, 4, some 0, [0, 1]),
   (22, 4, none, [6]),
   (22, 9, some 2, []),
   (22, 9, none, [6]),
   (23, 4, some 0, [6, 9, 10]),
   (23, 4, none, [6, 7]),
   (24, 4, some 0, []),
   (24, 4, none, [4]),
   (25, 8, some 0, [0, 1, 2, 3, 10, 11]),
   (25, 8, none, [8, 9]),
   (25, 15, some 2, [0, 1, 2, 3, 10, 11]),
   (25, 15, none, [8, 9]),
   (25, 21, some 4, [0, 1, 2, 3, 17]),
   (25, 21, none, [8, 9]),
   (26, 4, some 0, []),
   (26, 4, none, [8]),
   (27, 3, some 0, [0, 1, 2, 3, 10]),
   (27, 3, none, [8, 9]),
   (27, 7, some 2, [0, 1, 2, 3, 10, 11, 12]),
   (27, 7, none, [8, 9]),
   (27, 11, some 4, [0, 1, 2, 3, 10, 11, 12]),
   (27, 11, none, [8, 9]),
   (27, 16, some 6, [0, 1, 2, 3, 10, 11, 12, 14, 15]),
   (27, 16, none, [8, 9]),
   (28, 2, some 0, [0]),
   (28, 2, none, [2]),
   (29, 6, some 0, [7]),
   (29, 6, none, [4, 5]),
   (30, 4, some 0, []),
   (30, 4, none, [4]),
   (30, 9, some 2, [0, 5]),
   (30, 9, none, [4]),
   (31, 4, some 0, [6, 7]),
   (31, 4, none, [4, 5]),
   (31, 8, some 2, [0, 1, 6, 7, 8, 9]),
   (31, 8, none, [4, 5]),
   (32, 4, some 0, [0, 1, 2, 3, 4]),
   (32, 4, none, [10]),
   (33, 5, some 0, []),
   (33, 5, none, [10]),
   (34, 3, some 0, [3]),
   (34, 3, none, [2]),
   (37, 2, some 0, [0]),
   (37, 2, none, [4]),
   (38, 3, some 0, [2, 8]),
   (38, 3, none, [6, 7]),
   (39, 3, some 0, [5]),
   (39, 3, none, [4]),
   (40, 5, some 0, [0, 1, 7, 10]),
   (40, 5, none, [8, 9]),
   (40, 15, some 2, [13]),
   (40, 15, none, [8, 9]),
   (41, 4, some 0, [0, 1, 7]),
   (41, 4, none, [8, 9]),
   (41, 11, some 2, [7, 11, 12]),
   (41, 11, none, [8, 9]),
   (42, 4, some 0, [0]),
   (42, 4, none, [2, 3, 4]),
   (42, 11, some 2, [0, 7]),
   (42, 11, none, [2, 3, 4]),
   (42, 17, some 4, [7, 9]),
   (42, 17, none, [2, 3, 4]),
   (43, 4, some 0, []),
   (43, 4, none, [2]),
   (44, 4, some 0, [0, 4, 5, 6]),
   (44, 4, none, [2, 3]),
   (44, 8, some 2, [4, 5]),
   (44, 8, none, [2, 3]),
   (49, 4, some 0, []),
   (49, 4, none, [4]),
   (49, 9, some 2, [0, 1, 5]),
   (49, 9, none, [4]),
   (51, 4, some 0, [0]),
   (51, 4, none, [4]),
   (54, 3, some 0, [10]),
   (54, 3, none, [8, 9]),
   (55, 3, some 0, [4, 5]),
   (55, 3, none, [4]),
   (57, 3, some 0, [7]),
   (57, 3, none, [6]),
   (57, 8, some 2, [0, 1, 2, 7, 8]),
   (57, 8, none, [6]),
   (57, 11, some 4, [0, 1, 2, 7, 8, 9, 10, 11]),
   (57, 11, none, [6]),
   (59, 3, some 0, []),
   (59, 3, none, [10]),
   (60, 2, some 0, [0]),
   (60, 2, none, [2]),
   (60, 7, some 2, [0, 7, 8, 9]),
   (60, 7, none, [2]),
   (62, 2, some 0, [0, 1]),
   (62, 2, none, [4]),
   (63, 3, some 0, [3]),
   (63, 3, none, [2]),
   (64, 3, some 0, [1, 9, 10]),
   (64, 3, none, [6, 7, 8]),
   (64, 9, some 2, [1, 2, 9, 10, 12, 15, 16, 17]),
   (64, 9, none, [6, 7, 8]),
   (65, 3, some 0, [4, 5]),
   (65, 3, none, [4]),
   (66, 3, some 0, [0, 1, 2, 7]),
   (66, 3, none, [6]),
   (66, 10, some 2, [0, 1, 2, 7, 8]),
   (66, 10, none, [6]),
   (66, 15, some 4, [1, 7]),
   (66, 15, none, [6]),
   (67, 3, some 0, [6, 7]),
   (67, 3, none, [4, 5]),
   (68, 2, some 0, [0, 1]),
   (68, 2, none, [4]),
   (70, 3, some 0, [2, 9, 10]),
   (70, 3, none, [6, 7, 8]),
   (73, 7, some 1, []),
   (73, 7, none, [8]),
   (75, 2, some 0, [0]),
   (75, 2, none, [2]),
   (79, 7, some 0, [9]),
   (79, 7, none, [8]),
   (85, 4, some 0, []),
   (85, 4, none, [8]),
   (86, 3, some 0, [5]),
   (86, 3, none, [4]),
   (86, 7, some 2, [0, 1, 6, 7]),
   (86, 7, none, [4]),
   (86, 10, some 4, [0, 1, 5, 6, 7, 8]),
   (86, 10, none, [4]),
   (90, 2, some 0, []),
   (90, 2, none, [4]),
   (98, 2, some 0, []),
   (98, 2, none, [4]),
   (99, 2, some 0, []),
   (99, 2, none, [4]),
   (100, 2, some 0, []),
   (100, 2, none, [4]),
   (101, 2, some 0, []),
   (101, 2, none, [4]),
   (102, 2, some 0, []),
   (102, 2, none, [4]),
   (104, 2, some 0, []),
   (104, 2, none, [4])]
def annOf (f : FuncId) (k : Nat) : Option (List Nat) := (annL.find? fun x => x.1 == f && x.2.1 == k).map (·.2.2)
def annXOf (f : FuncId) (k : Nat) (e : Option Nat) : Option (List Nat) := (annXL.find? fun x => x.1 == f && x.2.1 == k && x.2.2.1 == e).map (·.2.2.2)
def wrL : List (Nat × List Bool) := [(21, [true, true, true]), (23, [true, true, true]), (57, [true, true, true]), (86, [true, true]), (84, [true, true, true]), (85, [true, true, true, true, true, true]), (93, [true, false]), (94, [true, false]), (95, [true, false]), (96, [true, false]), (97, [true, false])]
def wrOf (f : FuncId) : List Bool := ((wrL.find? fun x => x.1 == f).map (·.2)).getD []
def fzoOf (o : Oper) : List Nat := match o.op with
  | .move (.tmp 1) => if o.dst = some 18 then [0] else []
  | .move (.tmp 7) => if o.type = 120 && o.dst == some 106 then [7] else []
  | .store t _ v => if t = 37 then (match v with
    | .tmp x => if x = 104 then [104] else []
    | _ => []) else []
  | .buildSlice t _ ps => if t = 141 || t = 105 then ps.toList.filterMap fun p => match p.2 with
    | .tmp t => some t
    | _ => none
    else []
  | _ => []
noncomputable def C : Cfg := { P := Try.prog, ty := tyOf Try.prog, wr := wrOf, ann := annOf, annX := annXOf, fuel := 2 ^ 64, frz := fun _ => false, give := fun _ _ => false, ext := fun _ => none, fzo := fzoOf }
theorem own : ownKnob Try.prog.godebug = none := by kernel_rfl
theorem mixed : C.P.follows .mixedOrders = true := by kernel_rfl
def fnOk (fn : Func) : Bool := match fn.body with
  | none => true
  | some c => fn.name != "runtime.NumGoroutine" && regsOk c
theorem fnsOk : Try.prog.funcs.toList.all fnOk = true := by kernel_rfl
theorem fn_ok {f : FuncId} {fn : Func} {c : Code} (h : Try.prog.funcs[f]? = some fn) (hb : fn.body = some c) : fn.name ≠ "runtime.NumGoroutine" ∧ regsOk c = true := by
  have hm : fn ∈ Try.prog.funcs := Array.mem_of_getElem? h
  have := List.all_eq_true.1 fnsOk fn (by simpa using hm)
  unfold fnOk at this
  rw [hb] at this
  simpa using this
theorem callsOk (n : Nat) : CallOK C.P (callA C n) := by
  refine calls_ok (C := C) ?_ ?_ mixed ?_ ?_ n
  · intro t T h
    dsimp only [C] at h ⊢
    exact h
  · intro f E h
    delta C at h
    cases h
  · intro f fn h hb
    obtain ⟨c, hc⟩ := Option.isSome_iff_exists.1 hb
    exact (fn_ok h hc).1
  · exact fun f fn c h hb => (fn_ok h hb).2
def s47 : Sig := ⟨[.k (.int .i64), .k (.int .i64), .k (.int .i64)], [(.k .bool, [])]⟩
def s50 : Sig := ⟨[.k (.int .i64), .k (.int .i64), .k (.int .i64)], [(.k .bool, [])]⟩
def s93 : SigW := ⟨[.ptr 0 121 0 0, .agg [.k (.int .i64), .k (.int .i64), .k (.int .i64), .k (.int .i64)]], [.arr .i64 120 [.mp 1], .map false [.int .i64] .bool], [(.k (.int .i64), [.arr .i64 120 [.mp 1], .map false [.int .i64] .bool])]⟩
def s94 : SigW := ⟨[.ptr 0 121 0 0, .agg [.k (.int .i64), .k (.int .i64), .k (.int .i64), .k (.int .i64)]], [.arr .i64 120 [.mp 1], .map false [.int .i64] .bool], [(.k (.int .i64), [.arr .i64 120 [.mp 1], .map false [.int .i64] .bool])]⟩
def s95 : SigW := ⟨[.ptr 0 121 0 0, .agg [.k (.int .i64), .k (.int .i64), .k (.int .i64), .k (.int .i64)]], [.arr .i64 120 [.mp 1], .map false [.int .i64] .bool], [(.k (.int .i64), [.arr .i64 120 [.mp 1], .map false [.int .i64] .bool])]⟩
def s96 : SigW := ⟨[.ptr 0 121 0 0, .agg [.k (.int .i64), .k (.int .i64), .k (.int .i64), .k (.int .i64)]], [.arr .i64 120 [.mp 1], .map false [.int .i64] .bool], [(.k (.int .i64), [.arr .i64 120 [.mp 1], .map false [.int .i64] .bool])]⟩
def s97 : SigW := ⟨[.ptr 0 121 0 0, .agg [.k (.int .i64), .k (.int .i64), .k (.int .i64), .k (.int .i64)]], [.arr .i64 120 [.mp 1], .map false [.int .i64] .bool], [(.k (.int .i64), [.arr .i64 120 [.mp 1], .map false [.int .i64] .bool])]⟩
def s71 : Sig := ⟨[], [(.mp 0, [.mlst [((.i64, (1 : Int)), .fn 93 [] []), ((.i64, (2 : Int)), .fn 94 [] []), ((.i64, (4 : Int)), .fn 95 [] []), ((.i64, (3 : Int)), .fn 96 [] []), ((.i64, (5 : Int)), .fn 97 [] [])]])]⟩
def s43 : Sig := ⟨[.k (.ro [.int .i64, .int .i64, .int .i64, .int .i64])], [(.k .bool, [])]⟩
def l43_4 : LSig := mkLS [0, 3] [(72, [(0, .k (.ro [.int .i64, .int .i64, .int .i64, .int .i64])), (3, .k (.int .i64))], [])] [(.ret, [2], [(72, [(2, .k .bool)], [])]), (.exit 0, [], [(72, [], [])])]
def s42 : Sig := ⟨[.k (.ro [.int .i64, .int .i64, .int .i64, .int .i64])], [(.tup [.nils, .nils, .k (.int .i64)], []), (.tup [.nils, .sl 0 1, .k (.int .i64)], [.row [.int .i64]]), (.tup [.nils, .emp 1, .k (.int .i64)], []), (.tup [.sl 0 2, .sl 1 1, .k (.int .i64)], [.row [.int .i64, .int .i64], .row [.int .i64]]), (.tup [.sl 0 2, .emp 1, .k (.int .i64)], [.row [.int .i64, .int .i64]])]⟩
def l42_4 : LSig := mkLS [0, 16, 17, 18] [(111, [(0, .k (.ro [.int .i64, .int .i64, .int .i64, .int .i64])), (16, .k (.ro [.int .i64, .int .i64, .int .i64, .int .i64])), (17, .k (.int .i64)), (18, .k (.int .i64))], [])] [(.ret, [2, 3, 4], [(111, [(2, .nils), (3, .nils), (4, .k (.int .i64))], [])]), (.exit 0, [0], [(111, [(0, .k (.ro [.int .i64, .int .i64, .int .i64, .int .i64]))], [])])]
def l42_11 : LSig := mkLS [0, 7, 68] [(111, [(0, .k (.ro [.int .i64, .int .i64, .int .i64, .int .i64])), (7, .ptr 0 121 0 0), (68, .k (.int .i64))], [.arr .i64 120 [.mp 1], .map false [.int .i64] .bool])] [(.exit 2, [0, 7], [(111, [(0, .k (.ro [.int .i64, .int .i64, .int .i64, .int .i64])), (7, .ptr 0 121 0 0)], [.arr .i64 120 [.mp 1], .map false [.int .i64] .bool])])]
def l42_17 : LSig := mkLS [7, 9, 82, 83, 84] [(111, [(7, .ptr 0 121 0 0), (9, .nils), (82, .k (.ro [.int .i64, .int .i64, .int .i64, .int .i64])), (83, .k (.int .i64)), (84, .k (.int .i64))], [.arr .i64 120 [.mp 1], .map false [.int .i64] .bool]), (111, [(7, .ptr 0 121 0 0), (9, .sl 1 2), (82, .k (.ro [.int .i64, .int .i64, .int .i64, .int .i64])), (83, .k (.int .i64)), (84, .k (.int .i64))], [.arr .i64 120 [.mp 2], .row [.int .i64, .int .i64], .map false [.int .i64] .bool])] [(.exit 4, [7, 9], [(111, [(7, .ptr 0 121 0 0), (9, .nils)], [.arr .i64 120 [.mp 1], .map false [.int .i64] .bool]), (111, [(7, .ptr 0 121 0 0), (9, .sl 1 2)], [.arr .i64 120 [.mp 2], .row [.int .i64, .int .i64], .map false [.int .i64] .bool])])]
def s72 : Sig := ⟨[.k (.ro [.int .i64])], [(.sl 0 1, [.row [.int .i64]]), (.emp 1, [])]⟩
def s14 : Sig := ⟨[.k (.ro [.int .i64, .int .i64, .int .i64, .int .i64]), .k (.int .i64)], [(.k .bool, [])]⟩
def l14_8 : LSig := mkLS [0, 1, 5, 8, 9, 11] [(190, [(0, .k (.ro [.int .i64, .int .i64, .int .i64, .int .i64])), (1, .k (.int .i64)), (5, .nils), (8, .nils), (9, .sl 0 1), (11, .k (.int .i64))], [.row [.int .i64]]), (190, [(0, .k (.ro [.int .i64, .int .i64, .int .i64, .int .i64])), (1, .k (.int .i64)), (5, .nils), (8, .sl 0 2), (9, .sl 1 1), (11, .k (.int .i64))], [.row [.int .i64, .int .i64], .row [.int .i64]]), (190, [(0, .k (.ro [.int .i64, .int .i64, .int .i64, .int .i64])), (1, .k (.int .i64)), (5, .sl 0 2), (8, .nils), (9, .sl 1 1), (11, .k (.int .i64))], [.row [.int .i64, .int .i64], .row [.int .i64]]), (190, [(0, .k (.ro [.int .i64, .int .i64, .int .i64, .int .i64])), (1, .k (.int .i64)), (5, .sl 0 2), (8, .sl 1 2), (9, .sl 2 1), (11, .k (.int .i64))], [.row [.int .i64, .int .i64], .row [.int .i64, .int .i64], .row [.int .i64]])] [(.exit 0, [0, 1, 5, 8], [(190, [(0, .k (.ro [.int .i64, .int .i64, .int .i64, .int .i64])), (1, .k (.int .i64)), (5, .nils), (8, .nils)], []), (190, [(0, .k (.ro [.int .i64, .int .i64, .int .i64, .int .i64])), (1, .k (.int .i64)), (5, .nils), (8, .sl 0 2)], [.row [.int .i64, .int .i64]]), (190, [(0, .k (.ro [.int .i64, .int .i64, .int .i64, .int .i64])), (1, .k (.int .i64)), (5, .sl 0 2), (8, .nils)], [.row [.int .i64, .int .i64]]), (190, [(0, .k (.ro [.int .i64, .int .i64, .int .i64, .int .i64])), (1, .k (.int .i64)), (5, .sl 0 2), (8, .sl 1 2)], [.row [.int .i64, .int .i64], .row [.int .i64, .int .i64]])]), (.ret, [4], [(190, [(4, .k .bool)], [])])]
def l14_11 : LSig := mkLS [0, 1, 5, 8, 9, 11, 12] [(190, [(0, .k (.ro [.int .i64, .int .i64, .int .i64, .int .i64])), (1, .k (.int .i64)), (5, .nils), (8, .nils), (9, .sl 0 1), (11, .k (.int .i64)), (12, .k (.int .i64))], [.row [.int .i64]]), (190, [(0, .k (.ro [.int .i64, .int .i64, .int .i64, .int .i64])), (1, .k (.int .i64)), (5, .nils), (8, .sl 0 2), (9, .sl 1 1), (11, .k (.int .i64)), (12, .k (.int .i64))], [.row [.int .i64, .int .i64], .row [.int .i64]]), (190, [(0, .k (.ro [.int .i64, .int .i64, .int .i64, .int .i64])), (1, .k (.int .i64)), (5, .sl 0 2), (8, .nils), (9, .sl 1 1), (11, .k (.int .i64)), (12, .k (.int .i64))], [.row [.int .i64, .int .i64], .row [.int .i64]]), (190, [(0, .k (.ro [.int .i64, .int .i64, .int .i64, .int .i64])), (1, .k (.int .i64)), (5, .sl 0 2), (8, .sl 1 2), (9, .sl 2 1), (11, .k (.int .i64)), (12, .k (.int .i64))], [.row [.int .i64, .int .i64], .row [.int .i64, .int .i64], .row [.int .i64]])] [(.ret, [4], [(190, [(4, .k .bool)], [])]), (.exit 2, [0, 1, 5, 8, 9, 11], [(190, [(0, .k (.ro [.int .i64, .int .i64, .int .i64, .int .i64])), (1, .k (.int .i64)), (5, .nils), (8, .nils), (9, .sl 0 1), (11, .k (.int .i64))], [.row [.int .i64]]), (190, [(0, .k (.ro [.int .i64, .int .i64, .int .i64, .int .i64])), (1, .k (.int .i64)), (5, .nils), (8, .sl 0 2), (9, .sl 1 1), (11, .k (.int .i64))], [.row [.int .i64, .int .i64], .row [.int .i64]]), (190, [(0, .k (.ro [.int .i64, .int .i64, .int .i64, .int .i64])), (1, .k (.int .i64)), (5, .sl 0 2), (8, .nils), (9, .sl 1 1), (11, .k (.int .i64))], [.row [.int .i64, .int .i64], .row [.int .i64]]), (190, [(0, .k (.ro [.int .i64, .int .i64, .int .i64, .int .i64])), (1, .k (.int .i64)), (5, .sl 0 2), (8, .sl 1 2), (9, .sl 2 1), (11, .k (.int .i64))], [.row [.int .i64, .int .i64], .row [.int .i64, .int .i64], .row [.int .i64]])])]
def l14_16 : LSig := mkLS [0, 1, 5, 8, 13] [(190, [(0, .k (.ro [.int .i64, .int .i64, .int .i64, .int .i64])), (1, .k (.int .i64)), (5, .nils), (8, .nils), (13, .k (.int .i64))], []), (190, [(0, .k (.ro [.int .i64, .int .i64, .int .i64, .int .i64])), (1, .k (.int .i64)), (5, .nils), (8, .sl 0 2), (13, .k (.int .i64))], [.row [.int .i64, .int .i64]]), (190, [(0, .k (.ro [.int .i64, .int .i64, .int .i64, .int .i64])), (1, .k (.int .i64)), (5, .sl 0 2), (8, .nils), (13, .k (.int .i64))], [.row [.int .i64, .int .i64]]), (190, [(0, .k (.ro [.int .i64, .int .i64, .int .i64, .int .i64])), (1, .k (.int .i64)), (5, .sl 0 2), (8, .sl 1 2), (13, .k (.int .i64))], [.row [.int .i64, .int .i64], .row [.int .i64, .int .i64]])] [(.exit 4, [0, 5], [(190, [(0, .k (.ro [.int .i64, .int .i64, .int .i64, .int .i64])), (5, .nils)], []), (190, [(0, .k (.ro [.int .i64, .int .i64, .int .i64, .int .i64])), (5, .sl 0 2)], [.row [.int .i64, .int .i64]])]), (.ret, [4], [(190, [(4, .k .bool)], [])])]
def l14_23 : LSig := mkLS [0, 14] [(190, [(0, .k (.ro [.int .i64, .int .i64, .int .i64, .int .i64])), (14, .k (.int .i64))], [])] [(.exit 6, [], [(190, [], [])]), (.ret, [4], [(190, [(4, .k .bool)], [])])]
def l14_28 : LSig := mkLS [0, 14, 15, 16] [(190, [(0, .k (.ro [.int .i64, .int .i64, .int .i64, .int .i64])), (14, .k (.int .i64)), (15, .k .bool), (16, .k (.int .i64))], [])] [(.exit 8, [0, 14, 15], [(190, [(0, .k (.ro [.int .i64, .int .i64, .int .i64, .int .i64])), (14, .k (.int .i64)), (15, .k .bool)], [])])]
noncomputable section
def G47 (ds : List D) : T (List D) := match ds with
  | [a, b, c] => .leaf [.b (within a.I b.I c.I)]
  | _ => .fail
def G50 (ds : List D) : T (List D) := match ds with
  | [a, b, c] => .leaf [.b (within a.I b.I c.I)]
  | _ => .fail
end
noncomputable section
def eK (l : List (List D)) (i : Nat) : Int := ix (l.getD i []) 0
def eP (l : List (List D)) (i : Nat) : Int := ix (l.getD i []) 1
def eN (l : List (List D)) (i : Nat) : Int := ix (l.getD i []) 2
def eM (l : List (List D)) (i : Nat) : Int := ix (l.getD i []) 3
def logAt (l : List (List D)) (i : Nat) : Bool :=
  within (eK l i) 1 5 && (within (eP l i) 0 59 && (within (eN l i) 0 1000000 && (within (eM l i) 0 1000000 && (decide (i = 0) || decide (eM l (i - 1) ≤ eM l i)))))
def logOk (l : List (List D)) : Bool := decide (l.length ≤ 1000) && allFrom (logAt l) 0 l.length
def cl (s : List (List D)) (j : Int) : Int := ix (s.getD j.toNat []) 0
def stS (s : List (List D)) (j v : Int) : List (List D) := s.set j.toNat [.i v]
def okF (f : List (List D)) : Prop := ∀ c ∈ f, ∃ n, c = [D.i n, D.b true]
def hasN (f : List (List D)) (n : Int) : Bool := mhas [.int .i64] [.i n] f
def ruleP (k p n m : Int) (s f : List (List D)) : Int :=
  if k = 1 then (if 0 ≤ cl s p then 1 else if hasN f n = true then 2 else 0)
  else if k = 2 then (if cl s p = n then 0 else 3)
  else if k = 4 then (if n < m then 4 else 0)
  else if k = 3 then (if cl s p = n then (if cl s (60 + p) < m then 6 else 0) else 5)
  else (if n = p ∨ 60 ≤ n then 7 else if cl s p < 0 ∨ cl s n < 0 then 8 else 0)
def nextS (k p n m : Int) (s f : List (List D)) : List (List D) :=
  if ruleP k p n m s f = 0 then
    (if k = 1 then stS s p n else if k = 2 then s else if k = 4 then stS s (60 + p) n else if k = 3 then stS (stS s p (-1)) (60 + p) (-1) else stS (stS s p (cl s n)) n (cl s p))
  else s
def nextF (k n : Int) (f : List (List D)) : List (List D) := if k = 1 then msetD [.int .i64] [.i n] (.b true) f else f
def runP (l : List (List D)) : Nat → Nat → List (List D) → List (List D) → List (List D) × (List (List D) × List (List D))
  | _, 0, s, f => ([], s, f)
  | i, k + 1, s, f =>
    (if ruleP (eK l i) (eP l i) (eN l i) (eM l i) s f = 0 then (runP l (i + 1) k (nextS (eK l i) (eP l i) (eN l i) (eM l i) s f) (nextF (eK l i) (eN l i) f)).1
      else [.i (i : Int), .i (ruleP (eK l i) (eP l i) (eN l i) (eM l i) s f)] :: (runP l (i + 1) k (nextS (eK l i) (eP l i) (eN l i) (eM l i) s f) (nextF (eK l i) (eN l i) f)).1,
    (runP l (i + 1) k (nextS (eK l i) (eP l i) (eN l i) (eM l i) s f) (nextF (eK l i) (eN l i) f)).2)
def minus (n : Nat) : List (List D) := List.replicate n [.i (-1)]
def part (n i : Nat) : List (List D) := minus i ++ List.replicate (n - i) [.i 0]
def fitB (l : List (List D)) (n : Int) (j : Nat) : Bool := eK l j == 1 && eN l j == n
def anyFit (l : List (List D)) (n : Int) (i k : Nat) : Bool := !allFrom (fun j => !fitB l n j) i k
def ruleD (l : List (List D)) (i : Nat) (s t : List (List D)) : Int :=
  if eK l i = 1 then (if 0 ≤ cl s (eP l i) then 1 else if anyFit l (eN l i) 0 i = true then 2 else 0)
  else if eK l i = 2 then (if cl s (eP l i) = eN l i then 0 else 3)
  else if eK l i = 4 then (if eN l i < eM l i then 4 else 0)
  else if eK l i = 3 then (if cl s (eP l i) = eN l i then (if cl t (eP l i) < eM l i then 6 else 0) else 5)
  else (if eN l i = eP l i ∨ 60 ≤ eN l i then 7 else if cl s (eP l i) < 0 ∨ cl s (eN l i) < 0 then 8 else 0)
def docS (l : List (List D)) (i : Nat) (s : List (List D)) : List (List D) :=
  if eK l i = 1 then stS s (eP l i) (eN l i) else if eK l i = 2 then s else if eK l i = 4 then s else if eK l i = 3 then stS s (eP l i) (-1) else stS (stS s (eP l i) (cl s (eN l i))) (eN l i) (cl s (eP l i))
def docT (l : List (List D)) (i : Nat) (t : List (List D)) : List (List D) :=
  if eK l i = 4 then stS t (eP l i) (eN l i) else if eK l i = 3 then stS t (eP l i) (-1) else t
def runD (l : List (List D)) : Nat → Nat → List (List D) → List (List D) → List (List D) × List (List D)
  | _, 0, s, _ => ([], s)
  | i, k + 1, s, t => if ruleD l i s t = 0 then runD l (i + 1) k (docS l i s) (docT l i t)
    else ([.i (i : Int), .i (ruleD l i s t)] :: (runD l (i + 1) k s t).1, (runD l (i + 1) k s t).2)
def Gop (q : Int) (ds : List D) : T (List D) := match ds with
  | [_, p, n, m, s, f] => .need (yes (s.L.length = 120 ∧ (0 ≤ p.I ∧ p.I < 60) ∧ 0 ≤ n.I ∧ okF f.L)) (.leaf [.i (ruleP q p.I n.I m.I s.L f.L), .l (nextS q p.I n.I m.I s.L f.L), .l (nextF q n.I f.L)])
  | _ => .fail
def G93 : List D → T (List D) := Gop 1
def G94 : List D → T (List D) := Gop 2
def G95 : List D → T (List D) := Gop 4
def G96 : List D → T (List D) := Gop 3
def G97 : List D → T (List D) := Gop 5
def G71 (ds : List D) : T (List D) := match ds with
  | [] => .leaf []
  | _ => .fail
def G43 (ds : List D) : T (List D) := match ds with
  | [l] => .leaf [.b (logOk l.L)]
  | _ => .fail
def G43_4 (ds : List D) : T (Ex × List D) := match ds with
  | [l, i] => .need (yes (l.L.length ≤ 1000 ∧ 0 ≤ i.I ∧ i.I ≤ l.L.length)) (.ite (allFrom (logAt l.L) i.I.toNat (l.L.length - i.I.toNat)) (.leaf (.exit 0, [])) (.leaf (.ret, [.b false])))
  | _ => .fail
def G42_4 (ds : List D) : T (Ex × List D) := match ds with
  | [l, a, c, i] => .need (yes (a.L = l.L ∧ l.L.length ≤ 1000 ∧ c.I = l.L.length ∧ 0 ≤ i.I ∧ i.I ≤ l.L.length)) (.ite (allFrom (logAt l.L) i.I.toNat (l.L.length - i.I.toNat)) (.leaf (.exit 0, [.l l.L])) (.leaf (.ret, [.i 2])))
  | _ => .fail
def G42_11 (ds : List D) : T (Ex × List D) := match ds with
  | [l, i, s, f] => .need (yes ((0 ≤ i.I ∧ i.I ≤ 60) ∧ s.L = part 60 i.I.toNat ++ part 60 i.I.toNat)) (.leaf (.exit 2, [.l l.L, .l (minus 120), .l f.L]))
  | _ => .fail
def okSt (l s f : List (List D)) (c i : Int) : Prop := logOk l = true ∧ c = l.length ∧ (0 ≤ i ∧ i ≤ l.length) ∧ s.length = 120 ∧ okF f
def G42_17 (ds : List D) : T (Ex × List D) := match ds with
  | [j, l, c, i, s, f] => .need (yes (j.I = 0 ∧ okSt l.L s.L f.L c.I i.I))
      (.ite (runP l.L i.I.toNat (l.L.length - i.I.toNat) s.L f.L).1.isEmpty
        (.leaf (.exit 4, [.i 0, .l (runP l.L i.I.toNat (l.L.length - i.I.toNat) s.L f.L).2.1, .l (runP l.L i.I.toNat (l.L.length - i.I.toNat) s.L f.L).2.2]))
        (.leaf (.exit 4, [.i 1, .i (runP l.L i.I.toNat (l.L.length - i.I.toNat) s.L f.L).1.length, .l (runP l.L i.I.toNat (l.L.length - i.I.toNat) s.L f.L).2.1, .l (runP l.L i.I.toNat (l.L.length - i.I.toNat) s.L f.L).1, .l (runP l.L i.I.toNat (l.L.length - i.I.toNat) s.L f.L).2.2])))
  | [j, z, l, c, i, s, o, f] => .need (yes (j.I = 1 ∧ okSt l.L s.L f.L c.I i.I ∧ z.I = o.L.length ∧ o.L.length ≤ i.I))
      (.leaf (.exit 4, [.i 1, .i (o.L ++ (runP l.L i.I.toNat (l.L.length - i.I.toNat) s.L f.L).1).length, .l (runP l.L i.I.toNat (l.L.length - i.I.toNat) s.L f.L).2.1, .l (o.L ++ (runP l.L i.I.toNat (l.L.length - i.I.toNat) s.L f.L).1), .l (runP l.L i.I.toNat (l.L.length - i.I.toNat) s.L f.L).2.2]))
  | _ => .fail
def faultsP (l : List (List D)) : List (List D) := (runP l 0 l.length (minus 120) []).1
def rowA (X : List (List D)) : List (List D) := (List.range 60).map fun q => [.i (ix (X.getD q []) 0)]
def sealsP (l : List (List D)) : List (List D) := rowA (runP l 0 l.length (minus 120) []).2.1
def G42 (ds : List D) : T (List D) := match ds with
  | [l] => .ite (logOk l.L) (.ite (faultsP l.L).isEmpty (.leaf [.i 1, .i 60, .i 0, .l (sealsP l.L)]) (.leaf [.i 3, .i (faultsP l.L).length, .i 60, .i 0, .l (faultsP l.L), .l (sealsP l.L)])) (.leaf [.i 0, .i 2])
  | _ => .fail
def faultsD (l : List (List D)) : List (List D) := (runD l 0 l.length (minus 60) (minus 60)).1
def sealsD (l : List (List D)) : List (List D) := (runD l 0 l.length (minus 60) (minus 60)).2
end
noncomputable def sp47 : SpL := []
noncomputable def lp47 : LpL := []
noncomputable def tab47 : Tab := mkTab sp47 lp47
noncomputable def sp50 : SpL := []
noncomputable def lp50 : LpL := []
noncomputable def tab50 : Tab := mkTab sp50 lp50
def s16 : Sig := ⟨[], [(.k .bool, [])]⟩
def s3 : Sig := ⟨[.agg [.k (.ro [.ro [.int .i64, .int .i64]]), .k (.ro [.ro [.int .i64, .int .i64]]), .k (.ro [.int .i64]), .k (.int .i64)], .k (.int .i64), .k (.int .i64), .k .bool, .k (.int .i64), .k (.int .i64)], [(.k .bool, [])]⟩
noncomputable section
def G16 (ds : List D) : T (List D) := match ds with
  | [] => .leaf [.b true]
  | _ => .fail
end
noncomputable section
def injS (s : List (List D)) : Prop := s.length = 60 ∧ ∀ i k : Nat, k < i → i < 60 → 0 ≤ cl s i → cl s i ≠ cl s k
def begins (g f : List (List D)) (c : Int) : Prop := f.length ≤ 1000 ∧ ∃ r, f = g ++ r ∧ ∀ x ∈ r, c ≤ ix x 0
def permB (l : List (List D)) (i q : Nat) : Bool := eK l q == 4 && (eP l q == eP l i && decide (eM l i ≤ eN l q))
def permitted (l : List (List D)) : Prop := l.length ≤ 1000 ∧ ∀ i, i < l.length → eK l i = 3 → ∃ q, q < i ∧ permB l i q = true
def in60 (w i : Int) : Prop := w = 60 ∧ 0 ≤ i ∧ i ≤ 60
def G14_8 (ds : List D) : T (Ex × List D) := match ds with
  | [j, l, c, w, i, s] => .need (yes (j.I = 0 ∧ injS s.L ∧ in60 w.I i.I)) (.leaf (.exit 0, [.i 0, .l l.L, .i c.I]))
  | [j, l, c, z, w, i, f, s] => .need (yes (j.I = 2 ∧ injS s.L ∧ in60 w.I i.I)) (.leaf (.exit 0, [.i 2, .l l.L, .i c.I, .i z.I.toNat, .l f.L]))
  | [j, l, c, z, y, w, i, f, g, s] => .need (yes (j.I = 3 ∧ injS s.L ∧ in60 w.I i.I)) (.leaf (.exit 0, [.i 3, .l l.L, .i c.I, .i z.I.toNat, .i y.I.toNat, .l f.L, .l g.L]))
  | _ => .fail
def G14_11 (ds : List D) : T (Ex × List D) := match ds with
  | [j, l, c, w, i, k, s] => .need (yes (j.I = 0 ∧ injS s.L ∧ in60 w.I i.I ∧ i.I < 60 ∧ (0 ≤ k.I ∧ k.I ≤ i.I))) (.leaf (.exit 2, [.i 0, .l l.L, .i c.I, .i 60, .i i.I, .l s.L]))
  | [j, l, c, z, w, i, k, f, s] => .need (yes (j.I = 2 ∧ injS s.L ∧ in60 w.I i.I ∧ i.I < 60 ∧ (0 ≤ k.I ∧ k.I ≤ i.I))) (.leaf (.exit 2, [.i 2, .l l.L, .i c.I, .i z.I.toNat, .i 60, .i i.I, .l f.L, .l s.L]))
  | [j, l, c, z, y, w, i, k, f, g, s] => .need (yes (j.I = 3 ∧ injS s.L ∧ in60 w.I i.I ∧ i.I < 60 ∧ (0 ≤ k.I ∧ k.I ≤ i.I))) (.leaf (.exit 2, [.i 3, .l l.L, .i c.I, .i z.I.toNat, .i y.I.toNat, .i 60, .i i.I, .l f.L, .l g.L, .l s.L]))
  | _ => .fail
def G14_16 (ds : List D) : T (Ex × List D) := match ds with
  | [j, l, _, i] => .need (yes (j.I = 0 ∧ i.I = 0)) (.leaf (.exit 4, [.i 0, .l l.L]))
  | [j, l, c, z, i, f] => .need (yes (j.I = 2 ∧ begins [] f.L c.I ∧ z.I = f.L.length ∧ (0 ≤ i.I ∧ i.I ≤ f.L.length))) (.leaf (.exit 4, [.i 1, .l l.L, .i f.L.length, .l f.L]))
  | [j, l, c, z, y, i, f, g] => .need (yes (j.I = 3 ∧ begins g.L f.L c.I ∧ z.I = f.L.length ∧ y.I = g.L.length ∧ (0 ≤ i.I ∧ i.I ≤ f.L.length))) (.leaf (.exit 4, [.i 1, .l l.L, .i f.L.length, .l f.L]))
  | _ => .fail
def G14_23 (ds : List D) : T (Ex × List D) := match ds with
  | [l, i] => .need (yes (permitted l.L ∧ (0 ≤ i.I ∧ i.I ≤ l.L.length))) (.leaf (.exit 6, []))
  | _ => .fail
def G14_28 (ds : List D) : T (Ex × List D) := match ds with
  | [l, i, b, k] => .need (yes (l.L.length ≤ 1000 ∧ (0 ≤ i.I ∧ i.I < l.L.length) ∧ (0 ≤ k.I ∧ k.I ≤ i.I))) (.leaf (.exit 8, [.l l.L, .i i.I, .b (b.B || !allFrom (fun q => !permB l.L i.I.toNat q) k.I.toNat (i.I.toNat - k.I.toNat))]))
  | _ => .fail
end
noncomputable def sp14 : SpL := [(43, mkF s43 G43), (16, mkF s16 G16), (42, mkF s42 G42)]
noncomputable def lp14 : LpL := [(8, mkL l14_8 G14_8), (11, mkL l14_11 G14_11), (16, mkL l14_16 G14_16), (23, mkL l14_23 G14_23), (28, mkL l14_28 G14_28)]
noncomputable def sw14 : SwL := []
noncomputable def tab14 : Tab := mkTab sp14 lp14 sw14
set_option linter.unusedVariables false
set_option maxRecDepth 100000
theorem t14 (a b : D) : (fnT C tab14 14 s14 [a, b]).run =
  T.run (T.ite (decide ((a.L.length : Int) > (60 : Int))) (T.leaf [D.b true]) (T.ite (!logOk a.L) (T.leaf [D.b true]) (T.ite (decide (b.I < (0 : Int))) (T.leaf [D.b true]) (T.ite (decide (b.I > (a.L.length : Int))) (T.leaf [D.b true]) (T.ite (logOk a.L) (T.ite (List.isEmpty (faultsP a.L)) (T.need (decide ((0 : Int) ≤ b.I ∧ b.I ≤ (a.L.length : Int))) (T.ite (logOk (List.take (b.I.toNat - 0) (List.drop 0 a.L))) (T.ite (List.isEmpty (faultsP (List.take (b.I.toNat - 0) (List.drop 0 a.L)))) (T.need (yes ((↑0 : Int) = (0 : Int) ∧ injS (sealsP (List.take (b.I.toNat - 0) (List.drop 0 a.L))) ∧ in60 (↑(Int.toNat (60 : Int)) : Int) (0 : Int))) (T.need (yes ((↑0 : Int) = (0 : Int) ∧ (0 : Int) = (0 : Int))) (T.need (yes (permitted a.L ∧ (0 : Int) ≤ (0 : Int) ∧ (0 : Int) ≤ (a.L.length : Int))) (T.leaf [D.b true])))) (T.ite (decide ((↑(Int.toNat (↑(List.length (faultsP (List.take (b.I.toNat - 0) (List.drop 0 a.L)))) : Int)) : Int) > (↑0 : Int))) (T.leaf [D.b false]) (T.need (yes ((↑(0 + 1) : Int) = (2 : Int) ∧ injS (sealsP (List.take (b.I.toNat - 0) (List.drop 0 a.L))) ∧ in60 (↑(Int.toNat (60 : Int)) : Int) (0 : Int))) (T.need (yes ((↑(0 + 1 + 1) : Int) = (2 : Int) ∧ begins [] (faultsP (List.take (b.I.toNat - 0) (List.drop 0 a.L))) b.I ∧ (↑(Int.toNat (↑(Int.toNat (↑(Int.toNat (↑(List.length (faultsP (List.take (b.I.toNat - 0) (List.drop 0 a.L)))) : Int)) : Int)) : Int)) : Int) = (↑(List.length (faultsP (List.take (b.I.toNat - 0) (List.drop 0 a.L)))) : Int) ∧ (0 : Int) ≤ (0 : Int) ∧ (0 : Int) ≤ (↑(List.length (faultsP (List.take (b.I.toNat - 0) (List.drop 0 a.L)))) : Int))) (T.ite (decide ((↑(Int.toNat (↑(List.length (faultsP (List.take (b.I.toNat - 0) (List.drop 0 a.L)))) : Int)) : Int) > (0 : Int))) (T.leaf [D.b true]) (T.need (yes (permitted a.L ∧ (0 : Int) ≤ (0 : Int) ∧ (0 : Int) ≤ (a.L.length : Int))) (T.leaf [D.b true]))))))) (T.leaf [D.b false]))) (T.need (decide ((0 : Int) ≤ b.I ∧ b.I ≤ (a.L.length : Int))) (T.ite (logOk (List.take (b.I.toNat - 0) (List.drop 0 a.L))) (T.ite (List.isEmpty (faultsP (List.take (b.I.toNat - 0) (List.drop 0 a.L)))) (T.need (yes ((↑(0 + 1 + 1) : Int) = (2 : Int) ∧ injS (sealsP (List.take (b.I.toNat - 0) (List.drop 0 a.L))) ∧ in60 (↑(Int.toNat (60 : Int)) : Int) (0 : Int))) (T.need (yes ((↑(0 + 1 + 1) : Int) = (2 : Int) ∧ begins [] (faultsP a.L) b.I ∧ (↑(Int.toNat (↑(Int.toNat (↑(Int.toNat (↑(List.length (faultsP a.L)) : Int)) : Int)) : Int)) : Int) = (↑(List.length (faultsP a.L)) : Int) ∧ (0 : Int) ≤ (0 : Int) ∧ (0 : Int) ≤ (↑(List.length (faultsP a.L)) : Int))) (T.ite (decide ((↑(Int.toNat (↑(List.length (faultsP a.L)) : Int)) : Int) > (0 : Int))) (T.leaf [D.b true]) (T.need (yes (permitted a.L ∧ (0 : Int) ≤ (0 : Int) ∧ (0 : Int) ≤ (a.L.length : Int))) (T.leaf [D.b true]))))) (T.ite (decide ((↑(Int.toNat (↑(List.length (faultsP (List.take (b.I.toNat - 0) (List.drop 0 a.L)))) : Int)) : Int) > (↑(Int.toNat (↑(List.length (faultsP a.L)) : Int)) : Int))) (T.leaf [D.b false]) (T.need (yes ((↑(0 + 1 + 1 + 1) : Int) = (3 : Int) ∧ injS (sealsP (List.take (b.I.toNat - 0) (List.drop 0 a.L))) ∧ in60 (↑(Int.toNat (60 : Int)) : Int) (0 : Int))) (T.need (yes ((↑(0 + 1 + 1 + 1) : Int) = (3 : Int) ∧ begins (faultsP (List.take (b.I.toNat - 0) (List.drop 0 a.L))) (faultsP a.L) b.I ∧ (↑(Int.toNat (↑(Int.toNat (↑(Int.toNat (↑(List.length (faultsP a.L)) : Int)) : Int)) : Int)) : Int) = (↑(List.length (faultsP a.L)) : Int) ∧ (↑(Int.toNat (↑(Int.toNat (↑(Int.toNat (↑(List.length (faultsP (List.take (b.I.toNat - 0) (List.drop 0 a.L)))) : Int)) : Int)) : Int)) : Int) = (↑(List.length (faultsP (List.take (b.I.toNat - 0) (List.drop 0 a.L)))) : Int) ∧ (0 : Int) ≤ (0 : Int) ∧ (0 : Int) ≤ (↑(List.length (faultsP a.L)) : Int))) (T.ite (decide ((↑(Int.toNat (↑(List.length (faultsP a.L)) : Int)) : Int) > (0 : Int))) (T.leaf [D.b true]) (T.need (yes (permitted a.L ∧ (0 : Int) ≤ (0 : Int) ∧ (0 : Int) ≤ (a.L.length : Int))) (T.leaf [D.b true]))))))) (T.leaf [D.b false])))) (T.need (decide ((0 : Int) ≤ b.I ∧ b.I ≤ (a.L.length : Int))) (T.ite (logOk (List.take (b.I.toNat - 0) (List.drop 0 a.L))) (T.ite (List.isEmpty (faultsP (List.take (b.I.toNat - 0) (List.drop 0 a.L)))) (T.leaf [D.b false]) (T.leaf [D.b false])) (T.leaf [D.b false])))))))) := by kernel_rfl
theorem t14_8_0 (a b c d e : D) : (roundT C tab14 14 (loopOf C.P 14 8) l14_8 [.i 0, a, b, c, d, e]).run =
  T.run (T.ite (decide (d.I < (c.I.toNat : Int))) (T.need (yes ((↑0 : Int) = (0 : Int) ∧ injS e.L ∧ in60 (c.I.toNat : Int) d.I ∧ d.I < (60 : Int) ∧ (0 : Int) ≤ (0 : Int) ∧ (0 : Int) ≤ d.I)) (T.leaf (Rd.again [D.i 0, D.l a.L, D.i b.I, D.i 60, D.i (IntKind.wrap IntKind.i64 (d.I + (1 : Int))), D.l e.L]))) (T.leaf (Rd.out (Ex.exit 0) [D.i 0, D.l a.L, D.i b.I]))) := by kernel_rfl
theorem t14_8_2 (a b c d e f g : D) : (roundT C tab14 14 (loopOf C.P 14 8) l14_8 [.i 2, a, b, c, d, e, f, g]).run =
  T.run (T.ite (decide (e.I < (d.I.toNat : Int))) (T.need (yes ((↑(0 + 1 + 1) : Int) = (2 : Int) ∧ injS g.L ∧ in60 (d.I.toNat : Int) e.I ∧ e.I < (60 : Int) ∧ (0 : Int) ≤ (0 : Int) ∧ (0 : Int) ≤ e.I)) (T.leaf (Rd.again [D.i 2, D.l a.L, D.i b.I, D.i (↑(Int.toNat (↑(Int.toNat (c.I.toNat : Int)) : Int)) : Int), D.i 60, D.i (IntKind.wrap IntKind.i64 (e.I + (1 : Int))), D.l f.L, D.l g.L]))) (T.leaf (Rd.out (Ex.exit 0) [D.i 2, D.l a.L, D.i b.I, D.i (c.I.toNat : Int), D.l f.L]))) := by kernel_rfl
theorem t14_8_3 (a b c d e f g h i : D) : (roundT C tab14 14 (loopOf C.P 14 8) l14_8 [.i 3, a, b, c, d, e, f, g, h, i]).run =
  T.run (T.ite (decide (f.I < (e.I.toNat : Int))) (T.need (yes ((↑(0 + 1 + 1 + 1) : Int) = (3 : Int) ∧ injS i.L ∧ in60 (e.I.toNat : Int) f.I ∧ f.I < (60 : Int) ∧ (0 : Int) ≤ (0 : Int) ∧ (0 : Int) ≤ f.I)) (T.leaf (Rd.again [D.i 3, D.l a.L, D.i b.I, D.i (↑(Int.toNat (↑(Int.toNat (c.I.toNat : Int)) : Int)) : Int), D.i (↑(Int.toNat (↑(Int.toNat (d.I.toNat : Int)) : Int)) : Int), D.i 60, D.i (IntKind.wrap IntKind.i64 (f.I + (1 : Int))), D.l g.L, D.l h.L, D.l i.L]))) (T.leaf (Rd.out (Ex.exit 0) [D.i 3, D.l a.L, D.i b.I, D.i (c.I.toNat : Int), D.i (d.I.toNat : Int), D.l g.L, D.l h.L]))) := by kernel_rfl
theorem t14_11_0 (a b c d e f : D) : (roundT C tab14 14 (loopOf C.P 14 11) l14_11 [.i 0, a, b, c, d, e, f]).run =
  T.run (T.ite (decide (e.I < d.I)) (T.need (decide ((0 : Int) ≤ d.I ∧ d.I < (c.I.toNat : Int))) (T.need (decide (d.I.toNat < f.L.length)) (T.ite (decide (D.I (List.getD (List.getD f.L d.I.toNat []) 0 default) ≥ (0 : Int))) (T.need (decide ((0 : Int) ≤ d.I ∧ d.I < (c.I.toNat : Int))) (T.need (decide (d.I.toNat < f.L.length)) (T.need (decide ((0 : Int) ≤ e.I ∧ e.I < (c.I.toNat : Int))) (T.need (decide (e.I.toNat < f.L.length)) (T.ite (D.I (List.getD (List.getD f.L d.I.toNat []) 0 default) == D.I (List.getD (List.getD f.L e.I.toNat []) 0 default)) (T.leaf (Rd.out Ex.ret [D.b false])) (T.leaf (Rd.again [D.i 0, D.l a.L, D.i b.I, D.i (c.I.toNat : Int), D.i d.I, D.i (IntKind.wrap IntKind.i64 (e.I + (1 : Int))), D.l f.L]))))))) (T.leaf (Rd.again [D.i 0, D.l a.L, D.i b.I, D.i (c.I.toNat : Int), D.i d.I, D.i (IntKind.wrap IntKind.i64 (e.I + (1 : Int))), D.l f.L]))))) (T.leaf (Rd.out (Ex.exit 2) [D.i 0, D.l a.L, D.i b.I, D.i (c.I.toNat : Int), D.i d.I, D.l f.L]))) := by kernel_rfl
theorem t14_11_2 (a b c d e f g h : D) : (roundT C tab14 14 (loopOf C.P 14 11) l14_11 [.i 2, a, b, c, d, e, f, g, h]).run =
  T.run (T.ite (decide (f.I < e.I)) (T.need (decide ((0 : Int) ≤ e.I ∧ e.I < (d.I.toNat : Int))) (T.need (decide (e.I.toNat < h.L.length)) (T.ite (decide (D.I (List.getD (List.getD h.L e.I.toNat []) 0 default) ≥ (0 : Int))) (T.need (decide ((0 : Int) ≤ e.I ∧ e.I < (d.I.toNat : Int))) (T.need (decide (e.I.toNat < h.L.length)) (T.need (decide ((0 : Int) ≤ f.I ∧ f.I < (d.I.toNat : Int))) (T.need (decide (f.I.toNat < h.L.length)) (T.ite (D.I (List.getD (List.getD h.L e.I.toNat []) 0 default) == D.I (List.getD (List.getD h.L f.I.toNat []) 0 default)) (T.leaf (Rd.out Ex.ret [D.b false])) (T.leaf (Rd.again [D.i 2, D.l a.L, D.i b.I, D.i (c.I.toNat : Int), D.i (d.I.toNat : Int), D.i e.I, D.i (IntKind.wrap IntKind.i64 (f.I + (1 : Int))), D.l g.L, D.l h.L]))))))) (T.leaf (Rd.again [D.i 2, D.l a.L, D.i b.I, D.i (c.I.toNat : Int), D.i (d.I.toNat : Int), D.i e.I, D.i (IntKind.wrap IntKind.i64 (f.I + (1 : Int))), D.l g.L, D.l h.L]))))) (T.leaf (Rd.out (Ex.exit 2) [D.i 2, D.l a.L, D.i b.I, D.i (c.I.toNat : Int), D.i (d.I.toNat : Int), D.i e.I, D.l g.L, D.l h.L]))) := by kernel_rfl
theorem t14_11_3 (a b c d e f g h i j : D) : (roundT C tab14 14 (loopOf C.P 14 11) l14_11 [.i 3, a, b, c, d, e, f, g, h, i, j]).run =
  T.run (T.ite (decide (g.I < f.I)) (T.need (decide ((0 : Int) ≤ f.I ∧ f.I < (e.I.toNat : Int))) (T.need (decide (f.I.toNat < j.L.length)) (T.ite (decide (D.I (List.getD (List.getD j.L f.I.toNat []) 0 default) ≥ (0 : Int))) (T.need (decide ((0 : Int) ≤ f.I ∧ f.I < (e.I.toNat : Int))) (T.need (decide (f.I.toNat < j.L.length)) (T.need (decide ((0 : Int) ≤ g.I ∧ g.I < (e.I.toNat : Int))) (T.need (decide (g.I.toNat < j.L.length)) (T.ite (D.I (List.getD (List.getD j.L f.I.toNat []) 0 default) == D.I (List.getD (List.getD j.L g.I.toNat []) 0 default)) (T.leaf (Rd.out Ex.ret [D.b false])) (T.leaf (Rd.again [D.i 3, D.l a.L, D.i b.I, D.i (c.I.toNat : Int), D.i (d.I.toNat : Int), D.i (e.I.toNat : Int), D.i f.I, D.i (IntKind.wrap IntKind.i64 (g.I + (1 : Int))), D.l h.L, D.l i.L, D.l j.L]))))))) (T.leaf (Rd.again [D.i 3, D.l a.L, D.i b.I, D.i (c.I.toNat : Int), D.i (d.I.toNat : Int), D.i (e.I.toNat : Int), D.i f.I, D.i (IntKind.wrap IntKind.i64 (g.I + (1 : Int))), D.l h.L, D.l i.L, D.l j.L]))))) (T.leaf (Rd.out (Ex.exit 2) [D.i 3, D.l a.L, D.i b.I, D.i (c.I.toNat : Int), D.i (d.I.toNat : Int), D.i (e.I.toNat : Int), D.i f.I, D.l h.L, D.l i.L, D.l j.L]))) := by kernel_rfl
theorem t14_16_0 (a b c : D) : (roundT C tab14 14 (loopOf C.P 14 16) l14_16 [.i 0, a, b, c]).run =
  T.run (T.ite (decide (c.I < (↑0 : Int))) (T.ite (decide (c.I < (↑0 : Int))) T.fail (T.ite (decide (c.I ≥ (↑0 : Int))) T.fail (T.leaf (Rd.again [D.i 0, D.l a.L, D.i b.I, D.i (IntKind.wrap IntKind.i64 (c.I + (1 : Int)))])))) (T.leaf (Rd.out (Ex.exit 4) [D.i 0, D.l a.L]))) := by kernel_rfl
theorem t14_16_2 (a b c d e : D) : (roundT C tab14 14 (loopOf C.P 14 16) l14_16 [.i 2, a, b, c, d, e]).run =
  T.run (T.ite (decide (d.I < (c.I.toNat : Int))) (T.ite (decide (d.I < (↑0 : Int))) (T.need (decide ((0 : Int) ≤ d.I ∧ d.I < (c.I.toNat : Int))) (T.need (decide (d.I.toNat < e.L.length)) T.fail)) (T.ite (decide (d.I ≥ (↑0 : Int))) (T.need (decide ((0 : Int) ≤ d.I ∧ d.I < (c.I.toNat : Int))) (T.need (decide (d.I.toNat < e.L.length)) (T.ite (decide (D.I (List.getD (List.getD e.L d.I.toNat []) 0 default) < b.I)) (T.leaf (Rd.out Ex.ret [D.b false])) (T.leaf (Rd.again [D.i 2, D.l a.L, D.i b.I, D.i (c.I.toNat : Int), D.i (IntKind.wrap IntKind.i64 (d.I + (1 : Int))), D.l e.L]))))) (T.leaf (Rd.again [D.i 2, D.l a.L, D.i b.I, D.i (c.I.toNat : Int), D.i (IntKind.wrap IntKind.i64 (d.I + (1 : Int))), D.l e.L])))) (T.leaf (Rd.out (Ex.exit 4) [D.i 1, D.l a.L, D.i (c.I.toNat : Int), D.l e.L]))) := by kernel_rfl
theorem t14_16_3 (a b c d e f g : D) : (roundT C tab14 14 (loopOf C.P 14 16) l14_16 [.i 3, a, b, c, d, e, f, g]).run =
  T.run (T.ite (decide (e.I < (c.I.toNat : Int))) (T.ite (decide (e.I < (d.I.toNat : Int))) (T.need (decide ((0 : Int) ≤ e.I ∧ e.I < (c.I.toNat : Int))) (T.need (decide (e.I.toNat < f.L.length)) (T.need (decide ((0 : Int) ≤ e.I ∧ e.I < (d.I.toNat : Int))) (T.need (decide (e.I.toNat < g.L.length)) (T.ite (!(D.I (List.getD (List.getD f.L e.I.toNat []) 0 default) == D.I (List.getD (List.getD g.L e.I.toNat []) 0 default) && (D.I (List.getD (List.getD f.L e.I.toNat []) (0 + 1) default) == D.I (List.getD (List.getD g.L e.I.toNat []) (0 + 1) default) && true))) (T.leaf (Rd.out Ex.ret [D.b false])) (T.ite (decide (e.I ≥ (d.I.toNat : Int))) (T.need (decide ((0 : Int) ≤ e.I ∧ e.I < (c.I.toNat : Int))) (T.need (decide (e.I.toNat < f.L.length)) (T.ite (decide (D.I (List.getD (List.getD f.L e.I.toNat []) 0 default) < b.I)) (T.leaf (Rd.out Ex.ret [D.b false])) (T.leaf (Rd.again [D.i 3, D.l a.L, D.i b.I, D.i (c.I.toNat : Int), D.i (d.I.toNat : Int), D.i (IntKind.wrap IntKind.i64 (e.I + (1 : Int))), D.l f.L, D.l g.L]))))) (T.leaf (Rd.again [D.i 3, D.l a.L, D.i b.I, D.i (c.I.toNat : Int), D.i (d.I.toNat : Int), D.i (IntKind.wrap IntKind.i64 (e.I + (1 : Int))), D.l f.L, D.l g.L])))))))) (T.ite (decide (e.I ≥ (d.I.toNat : Int))) (T.need (decide ((0 : Int) ≤ e.I ∧ e.I < (c.I.toNat : Int))) (T.need (decide (e.I.toNat < f.L.length)) (T.ite (decide (D.I (List.getD (List.getD f.L e.I.toNat []) 0 default) < b.I)) (T.leaf (Rd.out Ex.ret [D.b false])) (T.leaf (Rd.again [D.i 3, D.l a.L, D.i b.I, D.i (c.I.toNat : Int), D.i (d.I.toNat : Int), D.i (IntKind.wrap IntKind.i64 (e.I + (1 : Int))), D.l f.L, D.l g.L]))))) (T.leaf (Rd.again [D.i 3, D.l a.L, D.i b.I, D.i (c.I.toNat : Int), D.i (d.I.toNat : Int), D.i (IntKind.wrap IntKind.i64 (e.I + (1 : Int))), D.l f.L, D.l g.L])))) (T.leaf (Rd.out (Ex.exit 4) [D.i 1, D.l a.L, D.i (c.I.toNat : Int), D.l f.L]))) := by kernel_rfl
theorem t14_23 (a b : D) : (roundT C tab14 14 (loopOf C.P 14 23) l14_23 [a, b]).run =
  T.run (T.ite (decide (b.I < (a.L.length : Int))) (T.need (decide ((0 : Int) ≤ b.I ∧ b.I < (a.L.length : Int))) (T.ite (D.I (List.getD (List.getD a.L b.I.toNat []) 0 default) != (3 : Int)) (T.leaf (Rd.again [D.l a.L, D.i (IntKind.wrap IntKind.i64 (b.I + (1 : Int)))])) (T.need (yes (a.L.length ≤ 1000 ∧ ((0 : Int) ≤ b.I ∧ b.I < (a.L.length : Int)) ∧ (0 : Int) ≤ (0 : Int) ∧ (0 : Int) ≤ b.I)) (T.ite (!(false || !allFrom (fun q => !permB a.L b.I.toNat q) (Int.toNat (0 : Int)) (b.I.toNat - Int.toNat (0 : Int)))) (T.leaf (Rd.out Ex.ret [D.b false])) (T.leaf (Rd.again [D.l a.L, D.i (IntKind.wrap IntKind.i64 (b.I + (1 : Int)))])))))) (T.leaf (Rd.out (Ex.exit 6) []))) := by kernel_rfl
theorem t14_28 (a b c d : D) : (roundT C tab14 14 (loopOf C.P 14 28) l14_28 [a, b, c, d]).run =
  T.run (T.ite (decide (d.I < b.I)) (T.ite c.B (T.leaf (Rd.again [D.l a.L, D.i b.I, D.b true, D.i (IntKind.wrap IntKind.i64 (d.I + (1 : Int)))])) (T.need (decide ((0 : Int) ≤ d.I ∧ d.I < (a.L.length : Int))) (T.ite (D.I (List.getD (List.getD a.L d.I.toNat []) 0 default) == (4 : Int)) (T.need (decide ((0 : Int) ≤ d.I ∧ d.I < (a.L.length : Int))) (T.need (decide ((0 : Int) ≤ b.I ∧ b.I < (a.L.length : Int))) (T.ite (D.I (List.getD (List.getD a.L d.I.toNat []) (0 + 1) default) == D.I (List.getD (List.getD a.L b.I.toNat []) (0 + 1) default)) (T.need (decide ((0 : Int) ≤ d.I ∧ d.I < (a.L.length : Int))) (T.need (decide ((0 : Int) ≤ b.I ∧ b.I < (a.L.length : Int))) (T.leaf (Rd.again [D.l a.L, D.i b.I, D.b (decide (D.I (List.getD (List.getD a.L d.I.toNat []) (0 + 1 + 1) default) ≥ D.I (List.getD (List.getD a.L b.I.toNat []) (0 + 1 + 1 + 1) default))), D.i (IntKind.wrap IntKind.i64 (d.I + (1 : Int)))])))) (T.leaf (Rd.again [D.l a.L, D.i b.I, D.b false, D.i (IntKind.wrap IntKind.i64 (d.I + (1 : Int)))]))))) (T.leaf (Rd.again [D.l a.L, D.i b.I, D.b false, D.i (IntKind.wrap IntKind.i64 (d.I + (1 : Int)))]))))) (T.leaf (Rd.out (Ex.exit 8) [D.l a.L, D.i b.I, D.b c.B]))) := by kernel_rfl
noncomputable section
def sameAt (a b : List (List D)) (j : Nat) : Bool := ix (a.getD j []) 0 == ix (b.getD j []) 0
end
noncomputable def sp93 : SpL := []
noncomputable def lp93 : LpL := []
noncomputable def sw93 : SwL := []
noncomputable def tab93 : Tab := mkTab sp93 lp93 sw93
noncomputable def sp94 : SpL := []
noncomputable def lp94 : LpL := []
noncomputable def sw94 : SwL := []
noncomputable def tab94 : Tab := mkTab sp94 lp94 sw94
noncomputable def sp95 : SpL := []
noncomputable def lp95 : LpL := []
noncomputable def sw95 : SwL := []
noncomputable def tab95 : Tab := mkTab sp95 lp95 sw95
noncomputable def sp96 : SpL := []
noncomputable def lp96 : LpL := []
noncomputable def sw96 : SwL := []
noncomputable def tab96 : Tab := mkTab sp96 lp96 sw96
noncomputable def sp97 : SpL := []
noncomputable def lp97 : LpL := []
noncomputable def sw97 : SwL := []
noncomputable def tab97 : Tab := mkTab sp97 lp97 sw97
noncomputable def sp71 : SpL := []
noncomputable def lp71 : LpL := []
noncomputable def sw71 : SwL := []
noncomputable def tab71 : Tab := mkTab sp71 lp71 sw71
noncomputable def sp43 : SpL := [(50, mkF s50 G50)]
noncomputable def lp43 : LpL := [(4, mkL l43_4 G43_4)]
noncomputable def sw43 : SwL := []
noncomputable def tab43 : Tab := mkTab sp43 lp43 sw43
noncomputable def sp42 : SpL := [(47, mkF s47 G47), (71, mkF s71 G71), (72, mkF s72 Gcl)]
noncomputable def lp42 : LpL := [(4, mkL l42_4 G42_4), (11, mkL l42_11 G42_11), (17, mkL l42_17 G42_17)]
noncomputable def sw42 : SwL := [(93, mkFW s93 G93), (94, mkFW s94 G94), (95, mkFW s95 G95), (96, mkFW s96 G96), (97, mkFW s97 G97)]
noncomputable def tab42 : Tab := mkTab sp42 lp42 sw42
noncomputable def sp72 : SpL := []
noncomputable def lp72 : LpL := []
noncomputable def sw72 : SwL := []
noncomputable def tab72 : Tab := mkTab sp72 lp72 sw72
set_option linter.unusedVariables false
set_option maxRecDepth 100000
theorem t93 (a b c d e f : D) : (fnTW C tab93 93 s93 [a, b, c, d, e, f]).run =
  T.run (T.ite (mhas [K.int IntKind.i64] [D.i c.I] f.L) (T.need (decide ((0 : Int) ≤ b.I ∧ b.I < (↑60 : Int))) (T.need (decide (0 + 0 + b.I.toNat * Program.cellsOf Try.prog 3 < 120)) (T.ite (decide (D.I (List.getD (List.getD e.L (0 + 0 + b.I.toNat * Program.cellsOf Try.prog 3) []) 0 default) ≥ (0 : Int))) (T.leaf [D.i 1, D.l e.L, D.l (msetD [K.int IntKind.i64] [D.i c.I] (D.b true) f.L)]) (T.ite (D.B (mval [K.int IntKind.i64] [D.i c.I] f.L)) (T.leaf [D.i 2, D.l e.L, D.l (msetD [K.int IntKind.i64] [D.i c.I] (D.b true) f.L)]) (T.need (decide ((0 : Int) ≤ b.I ∧ b.I < (↑60 : Int))) (T.need (decide (0 + 0 + b.I.toNat * Program.cellsOf Try.prog 3 < 120)) (T.leaf [D.i 0, D.l (List.set e.L (0 + 0 + b.I.toNat * Program.cellsOf Try.prog 3) [D.i c.I]), D.l (msetD [K.int IntKind.i64] [D.i c.I] (D.b true) f.L)]))))))) (T.need (decide ((0 : Int) ≤ b.I ∧ b.I < (↑60 : Int))) (T.need (decide (0 + 0 + b.I.toNat * Program.cellsOf Try.prog 3 < 120)) (T.ite (decide (D.I (List.getD (List.getD e.L (0 + 0 + b.I.toNat * Program.cellsOf Try.prog 3) []) 0 default) ≥ (0 : Int))) (T.leaf [D.i 1, D.l e.L, D.l (msetD [K.int IntKind.i64] [D.i c.I] (D.b true) f.L)]) (T.need (decide ((0 : Int) ≤ b.I ∧ b.I < (↑60 : Int))) (T.need (decide (0 + 0 + b.I.toNat * Program.cellsOf Try.prog 3 < 120)) (T.leaf [D.i 0, D.l (List.set e.L (0 + 0 + b.I.toNat * Program.cellsOf Try.prog 3) [D.i c.I]), D.l (msetD [K.int IntKind.i64] [D.i c.I] (D.b true) f.L)]))))))) := by kernel_rfl
theorem t94 (a b c d e f : D) : (fnTW C tab94 94 s94 [a, b, c, d, e, f]).run =
  T.run (T.need (decide ((0 : Int) ≤ b.I ∧ b.I < (↑60 : Int))) (T.need (decide (0 + 0 + b.I.toNat * Program.cellsOf Try.prog 3 < 120)) (T.ite (D.I (List.getD (List.getD e.L (0 + 0 + b.I.toNat * Program.cellsOf Try.prog 3) []) 0 default) != c.I) (T.leaf [D.i 3, D.l e.L, D.l f.L]) (T.leaf [D.i 0, D.l e.L, D.l f.L])))) := by kernel_rfl
theorem t95 (a b c d e f : D) : (fnTW C tab95 95 s95 [a, b, c, d, e, f]).run =
  T.run (T.ite (decide (c.I < d.I)) (T.leaf [D.i 4, D.l e.L, D.l f.L]) (T.need (decide ((0 : Int) ≤ b.I ∧ b.I < (↑60 : Int))) (T.need (decide (0 + 60 + b.I.toNat * Program.cellsOf Try.prog 3 < 120)) (T.leaf [D.i 0, D.l (List.set e.L (0 + 60 + b.I.toNat * Program.cellsOf Try.prog 3) [D.i c.I]), D.l f.L])))) := by kernel_rfl
theorem t96 (a b c d e f : D) : (fnTW C tab96 96 s96 [a, b, c, d, e, f]).run =
  T.run (T.need (decide ((0 : Int) ≤ b.I ∧ b.I < (↑60 : Int))) (T.need (decide (0 + 0 + b.I.toNat * Program.cellsOf Try.prog 3 < 120)) (T.ite (D.I (List.getD (List.getD e.L (0 + 0 + b.I.toNat * Program.cellsOf Try.prog 3) []) 0 default) != c.I) (T.leaf [D.i 5, D.l e.L, D.l f.L]) (T.need (decide ((0 : Int) ≤ b.I ∧ b.I < (↑60 : Int))) (T.need (decide (0 + 60 + b.I.toNat * Program.cellsOf Try.prog 3 < 120)) (T.ite (decide (D.I (List.getD (List.getD e.L (0 + 60 + b.I.toNat * Program.cellsOf Try.prog 3) []) 0 default) < d.I)) (T.leaf [D.i 6, D.l e.L, D.l f.L]) (T.need (decide ((0 : Int) ≤ b.I ∧ b.I < (↑60 : Int))) (T.need (decide (0 + 0 + b.I.toNat * Program.cellsOf Try.prog 3 < 120)) (T.need (decide ((0 : Int) ≤ b.I ∧ b.I < (↑60 : Int))) (T.need (decide (0 + 60 + b.I.toNat * Program.cellsOf Try.prog 3 < 120)) (T.leaf [D.i 0, D.l (List.set (List.set e.L (0 + 0 + b.I.toNat * Program.cellsOf Try.prog 3) [D.i (-1 : Int)]) (0 + 60 + b.I.toNat * Program.cellsOf Try.prog 3) [D.i (-1 : Int)]), D.l f.L]))))))))))) := by kernel_rfl
theorem t97 (a b c d e f : D) : (fnTW C tab97 97 s97 [a, b, c, d, e, f]).run =
  T.run (T.ite (c.I == b.I) (T.leaf [D.i 7, D.l e.L, D.l f.L]) (T.ite (decide (c.I ≥ (60 : Int))) (T.leaf [D.i 7, D.l e.L, D.l f.L]) (T.need (decide ((0 : Int) ≤ b.I ∧ b.I < (↑60 : Int))) (T.need (decide ((0 : Int) ≤ c.I ∧ c.I < (↑60 : Int))) (T.need (decide (0 + 0 + b.I.toNat * Program.cellsOf Try.prog 3 < 120)) (T.ite (decide (D.I (List.getD (List.getD e.L (0 + 0 + b.I.toNat * Program.cellsOf Try.prog 3) []) 0 default) < (0 : Int))) (T.leaf [D.i 8, D.l e.L, D.l f.L]) (T.need (decide (0 + 0 + c.I.toNat * Program.cellsOf Try.prog 3 < 120)) (T.ite (decide (D.I (List.getD (List.getD e.L (0 + 0 + c.I.toNat * Program.cellsOf Try.prog 3) []) 0 default) < (0 : Int))) (T.leaf [D.i 8, D.l e.L, D.l f.L]) (T.need (decide (0 + 0 + c.I.toNat * Program.cellsOf Try.prog 3 < 120)) (T.need (decide (0 + 0 + b.I.toNat * Program.cellsOf Try.prog 3 < 120)) (T.need (decide (0 + 0 + b.I.toNat * Program.cellsOf Try.prog 3 < 120)) (T.need (decide (0 + 0 + c.I.toNat * Program.cellsOf Try.prog 3 < 120)) (T.leaf [D.i 0, D.l (List.set (List.set e.L (0 + 0 + b.I.toNat * Program.cellsOf Try.prog 3) [D.i (D.I (List.getD (List.getD e.L (0 + 0 + c.I.toNat * Program.cellsOf Try.prog 3) []) 0 default))]) (0 + 0 + c.I.toNat * Program.cellsOf Try.prog 3) [D.i (D.I (List.getD (List.getD e.L (0 + 0 + b.I.toNat * Program.cellsOf Try.prog 3) []) 0 default))]), D.l f.L]))))))))))))) := by kernel_rfl
theorem t43 (a : D) : (fnT C tab43 43 s43 [a]).run =
  T.run (T.ite (decide ((a.L.length : Int) > (1000 : Int))) (T.leaf [D.b false]) (T.need (yes (a.L.length ≤ 1000 ∧ (0 : Int) ≤ (0 : Int) ∧ (0 : Int) ≤ (a.L.length : Int))) (T.ite (allFrom (logAt a.L) (Int.toNat (0 : Int)) (a.L.length - Int.toNat (0 : Int))) (T.leaf [D.b true]) (T.leaf [D.b false])))) := by kernel_rfl
theorem t43_4 (a b : D) : (roundT C tab43 43 (loopOf C.P 43 4) l43_4 [a, b]).run =
  T.run (T.ite (decide (b.I < (a.L.length : Int))) (T.need (decide ((0 : Int) ≤ b.I ∧ b.I < (a.L.length : Int))) (T.ite (decide (D.I (List.getD (List.getD a.L b.I.toNat []) 0 default) < (1 : Int))) (T.leaf (Rd.out Ex.ret [D.b false])) (T.need (decide ((0 : Int) ≤ b.I ∧ b.I < (a.L.length : Int))) (T.ite (decide (D.I (List.getD (List.getD a.L b.I.toNat []) 0 default) > (5 : Int))) (T.leaf (Rd.out Ex.ret [D.b false])) (T.need (decide ((0 : Int) ≤ b.I ∧ b.I < (a.L.length : Int))) (T.ite (!within (D.I (List.getD (List.getD a.L b.I.toNat []) (0 + 1) default)) (0 : Int) (59 : Int)) (T.leaf (Rd.out Ex.ret [D.b false])) (T.need (decide ((0 : Int) ≤ b.I ∧ b.I < (a.L.length : Int))) (T.ite (!within (D.I (List.getD (List.getD a.L b.I.toNat []) (0 + 1 + 1) default)) (0 : Int) (1000000 : Int)) (T.leaf (Rd.out Ex.ret [D.b false])) (T.need (decide ((0 : Int) ≤ b.I ∧ b.I < (a.L.length : Int))) (T.ite (!within (D.I (List.getD (List.getD a.L b.I.toNat []) (0 + 1 + 1 + 1) default)) (0 : Int) (1000000 : Int)) (T.leaf (Rd.out Ex.ret [D.b false])) (T.ite (decide (b.I > (0 : Int))) (T.need (decide ((0 : Int) ≤ b.I ∧ b.I < (a.L.length : Int))) (T.need (decide ((0 : Int) ≤ IntKind.wrap IntKind.i64 (b.I - (1 : Int)) ∧ IntKind.wrap IntKind.i64 (b.I - (1 : Int)) < (a.L.length : Int))) (T.ite (decide (D.I (List.getD (List.getD a.L b.I.toNat []) (0 + 1 + 1 + 1) default) < D.I (List.getD (List.getD a.L (Int.toNat (IntKind.wrap IntKind.i64 (b.I - (1 : Int)))) []) (0 + 1 + 1 + 1) default))) (T.leaf (Rd.out Ex.ret [D.b false])) (T.leaf (Rd.again [D.l a.L, D.i (IntKind.wrap IntKind.i64 (b.I + (1 : Int)))]))))) (T.leaf (Rd.again [D.l a.L, D.i (IntKind.wrap IntKind.i64 (b.I + (1 : Int)))]))))))))))))) (T.leaf (Rd.out (Ex.exit 0) []))) := by kernel_rfl
theorem t72 (a : D) : (fnT C tab72 72 s72 [a]).run =
  T.run (T.need (!List.isEmpty a.L) (T.ite (List.isEmpty a.L) (T.leaf [D.i 1]) (T.need (decide (a.L.length ≤ 2 ^ 62 ∧ a.L.length * Try.prog.types[3].bytes ≤ 2 ^ 47)) (T.leaf [D.i 0, D.i (a.L.length : Int), D.l a.L])))) := by kernel_rfl
set_option linter.unusedVariables false
set_option maxRecDepth 100000
theorem t47 (a b c : D) : fnT C tab47 47 s47 [a, b, c] =
  T.ite (decide (a.I ≥ b.I)) (T.leaf [D.b (decide (a.I ≤ c.I))]) (T.leaf [D.b false]) := by kernel_rfl
theorem t50 (a b c : D) : fnT C tab50 50 s50 [a, b, c] =
  T.ite (decide (a.I ≥ b.I)) (T.leaf [D.b (decide (a.I ≤ c.I))]) (T.leaf [D.b false]) := by kernel_rfl
theorem hC : ∀ t Y, C.ty t = some Y → tyOf C.P t = some Y := by
  intro t Y h
  dsimp only [C] at h ⊢
  exact h
theorem fuelC : C.fuel = 18446744073709551616 := by kernel_rfl
theorem ok47 (n : Nat) : FnOK C (n + 1) 47 (mkF s47 G47) := by
  refine fn_of hC (sp := sp47) (lp := lp47) trivial (by kernel_rfl) [] (by kernel_rfl) rfl (fun k hk => by cases hk) fun ds r h => ?_
  unfold G47 at h
  split at h
  · rename_i a b c
    rw [← h]
    refine (congrArg T.run (t47 a b c)).trans ?_
    simp only [run_ite, run_leaf, within]
    split <;> rename_i hc
    · have : b.I ≤ a.I := of_decide_eq_true hc
      simp [this]
    · have : ¬ b.I ≤ a.I := fun h => hc (decide_eq_true h)
      simp [this]
  · cases h
theorem ok50 (n : Nat) : FnOK C (n + 1) 50 (mkF s50 G50) := by
  refine fn_of hC (sp := sp50) (lp := lp50) trivial (by kernel_rfl) [] (by kernel_rfl) rfl (fun k hk => by cases hk) fun ds r h => ?_
  unfold G50 at h
  split at h
  · rename_i a b c
    rw [← h]
    refine (congrArg T.run (t50 a b c)).trans ?_
    simp only [run_ite, run_leaf, within]
    split <;> rename_i hc
    · have : b.I ≤ a.I := of_decide_eq_true hc
      simp [this]
    · have : ¬ b.I ≤ a.I := fun h => hc (decide_eq_true h)
      simp [this]
  · cases h
set_option maxRecDepth 100000
section
variable {α : Type} {p : Nat → Bool} {i len : Nat} {rt rf r : α}
theorem all_step (h : (T.ite (allFrom p i (len - i)) (.leaf rt) (.leaf rf)).run = some r) (hlt : i < len) : (p i = false → some rf = some r) ∧ (p i = true → (T.ite (allFrom p (i + 1) (len - (i + 1))) (.leaf rt) (.leaf rf)).run = some r) := by
  rw [show len - i = (len - (i + 1)) + 1 by omega] at h
  simp only [allFrom] at h
  refine ⟨fun hp => ?_, fun hp => ?_⟩
  · rw [hp, Bool.false_and] at h; exact h
  · rw [hp, Bool.true_and] at h; exact h
theorem all_end (h : (T.ite (allFrom p i (len - i)) (.leaf rt) (.leaf rf)).run = some r) (hge : ¬ i < len) : some rt = some r := by
  rw [show len - i = 0 by omega] at h
  exact h
end
theorem cells3 : Program.cellsOf Try.prog 3 = 1 := by kernel_rfl
theorem bytes3 : Try.prog.types[3].bytes = 8 := by kernel_rfl
theorem at0 {p : Int} : 0 + 0 + p.toNat * Program.cellsOf Try.prog 3 = p.toNat := by rw [cells3]; omega
theorem at60 {p : Int} (h : 0 ≤ p) : 0 + 60 + p.toNat * Program.cellsOf Try.prog 3 = (60 + p).toNat := by rw [cells3]; omega
theorem cl_def (s : List (List D)) (p : Int) : (List.getD (List.getD s p.toNat []) 0 default).I = cl s p := rfl
theorem st_def (s : List (List D)) (p v : Int) : s.set p.toNat [.i v] = stS s p v := rfl
theorem mfind_row {n : Int} : ∀ {f : List (List D)} {i q : Nat}, mfind [.int .i64] [.i n] f i = some q → ∃ c ∈ f, f.getD (q - i) [] = c ∧ i ≤ q
  | [], _, _, h => by simp [mfind] at h
  | c :: f, i, q, h => by
    simp only [mfind] at h
    split at h
    · simp only [Option.some.injEq] at h
      subst h
      exact ⟨c, List.mem_cons_self, by rw [Nat.sub_self]; rfl, Nat.le_refl _⟩
    · obtain ⟨d, h1, h2, h3⟩ := mfind_row h
      refine ⟨d, List.mem_cons_of_mem _ h1, ?_, by omega⟩
      rw [show q - i = (q - (i + 1)) + 1 by omega, List.getD_cons_succ]
      exact h2
theorem mval_true {f : List (List D)} {n : Int} (hf : okF f) (h : mhas [.int .i64] [.i n] f = true) : (mval [.int .i64] [.i n] f).B = true := by
  unfold mhas at h
  unfold mval
  cases e : mfind [.int .i64] [.i n] f 0 with
  | none => rw [e] at h; cases h
  | some q =>
    obtain ⟨c, h1, h2, -⟩ := mfind_row e
    obtain ⟨x, rfl⟩ := hf c h1
    rw [Nat.sub_zero] at h2
    rw [Option.getD_some, h2]
    rfl
theorem gop_of {q : Int} {p n m s f : D} {r : List D} {k : D} (h : (Gop q [k, p, n, m, s, f]).run = some r) : (s.L.length = 120 ∧ (0 ≤ p.I ∧ p.I < 60) ∧ 0 ≤ n.I ∧ okF f.L) ∧ some [.i (ruleP q p.I n.I m.I s.L f.L), .l (nextS q p.I n.I m.I s.L f.L), .l (nextF q n.I f.L)] = some r := by
  obtain ⟨hp, h⟩ := need_some (show (T.need _ _).run = some r from h)
  rw [yes_iff] at hp
  exact ⟨hp, h⟩
theorem gop_six {q : Int} {ds r : List D} (h : (Gop q ds).run = some r) : ∃ k p n m s f, ds = [k, p, n, m, s, f] := by
  unfold Gop at h
  split at h
  · exact ⟨_, _, _, _, _, _, rfl⟩
  · cases h
theorem ok93 (n : Nat) : FnOKW C (n + 1) 93 (mkFW s93 G93) := by
  refine fn_ofW hC (sp := sp93) (lp := lp93) (sw := sw93) trivial trivial (by kernel_rfl) [] (by kernel_rfl) rfl (fun k hk => by cases hk) fun ds rr h => ?_
  obtain ⟨k, p, n, m, s, f, rfl⟩ := gop_six h
  obtain ⟨⟨h1, h2, h3, h4⟩, h⟩ := gop_of h
  refine (t93 k p n m s f).trans ?_
  simp only [at0, cl_def, st_def]
  have go : ∀ (v : Int), (0 ≤ cl s.L p.I → v = 1) → (¬ 0 ≤ cl s.L p.I → hasN f.L n.I = true → v = 2) → (¬ 0 ≤ cl s.L p.I → hasN f.L n.I = false → v = 0) → ruleP 1 p.I n.I m.I s.L f.L = v := fun v a b c => by
    unfold ruleP
    rw [if_pos rfl]
    split
    · rename_i x; exact (a x).symm
    · rename_i x
      cases y : hasN f.L n.I with
      | true => rw [if_pos rfl]; exact (b x y).symm
      | false => rw [if_neg (by decide)]; exact (c x y).symm
  have fin : ∀ v x, ruleP 1 p.I n.I m.I s.L f.L = v → nextS 1 p.I n.I m.I s.L f.L = x → some [D.i v, .l x, .l (msetD [.int .i64] [.i n.I] (.b true) f.L)] = some rr := fun v x a b => by
    rw [← h, a, b]
    rfl
  refine go_ite (fun c1 => go_dec h2 (go_dec (by omega) (go_if (fun c2 => ?_) fun c2 => go_true (mval_true h4 c1) ?_))) fun c1 => go_dec h2 (go_dec (by omega) (go_if (fun c2 => ?_) fun c2 => go_dec h2 (go_dec (by omega) ?_)))
  · have e := go 1 (fun _ => rfl) (fun a => absurd c2 a) (fun a => absurd c2 a)
    exact fin _ _ e (by unfold nextS; rw [e, if_neg (by decide)])
  · have e := go 2 (fun a => absurd a c2) (fun _ _ => rfl) (fun _ a => by rw [hasN, c1] at a; cases a)
    exact fin _ _ e (by unfold nextS; rw [e, if_neg (by decide)])
  · have e := go 1 (fun _ => rfl) (fun a => absurd c2 a) (fun a => absurd c2 a)
    exact fin _ _ e (by unfold nextS; rw [e, if_neg (by decide)])
  · have e := go 0 (fun a => absurd a c2) (fun _ a => by rw [hasN, c1] at a; cases a) (fun _ _ => rfl)
    exact fin _ _ e (by unfold nextS; rw [e, if_pos rfl, if_pos rfl])
theorem ok94 (n : Nat) : FnOKW C (n + 1) 94 (mkFW s94 G94) := by
  refine fn_ofW hC (sp := sp94) (lp := lp94) (sw := sw94) trivial trivial (by kernel_rfl) [] (by kernel_rfl) rfl (fun k hk => by cases hk) fun ds rr h => ?_
  obtain ⟨k, p, n, m, s, f, rfl⟩ := gop_six h
  obtain ⟨⟨h1, h2, h3, h4⟩, h⟩ := gop_of h
  refine (t94 k p n m s f).trans ?_
  simp only [at0, cl_def]
  refine go_dec h2 (go_dec (by omega) (go_ite (fun c => ?_) fun c => ?_))
  · have e : ruleP 2 p.I n.I m.I s.L f.L = 3 := by
      unfold ruleP
      rw [if_neg (by decide), if_pos rfl, if_neg (by simpa using c)]
    rw [← h, e]
    unfold nextS nextF
    rw [e, if_neg (by decide), if_neg (by decide)]
    rfl
  · have e : ruleP 2 p.I n.I m.I s.L f.L = 0 := by
      unfold ruleP
      rw [if_neg (by decide), if_pos rfl, if_pos (by simpa using c)]
    rw [← h, e]
    unfold nextS nextF
    rw [e, if_pos rfl, if_neg (by decide), if_pos rfl, if_neg (by decide)]
    rfl
theorem ok95 (n : Nat) : FnOKW C (n + 1) 95 (mkFW s95 G95) := by
  refine fn_ofW hC (sp := sp95) (lp := lp95) (sw := sw95) trivial trivial (by kernel_rfl) [] (by kernel_rfl) rfl (fun k hk => by cases hk) fun ds rr h => ?_
  obtain ⟨k, p, n, m, s, f, rfl⟩ := gop_six h
  obtain ⟨⟨h1, h2, h3, h4⟩, h⟩ := gop_of h
  refine (t95 k p n m s f).trans ?_
  simp only [at60 h2.1, st_def]
  refine go_if (fun c => ?_) fun c => go_dec h2 (go_dec (by omega) ?_)
  · have e : ruleP 4 p.I n.I m.I s.L f.L = 4 := by
      unfold ruleP
      rw [if_neg (by decide), if_neg (by decide), if_pos rfl, if_pos c]
    rw [← h, e]
    unfold nextS nextF
    rw [e, if_neg (by decide), if_neg (by decide)]
    rfl
  · have e : ruleP 4 p.I n.I m.I s.L f.L = 0 := by
      unfold ruleP
      rw [if_neg (by decide), if_neg (by decide), if_pos rfl, if_neg c]
    rw [← h, e]
    unfold nextS nextF
    rw [e, if_pos rfl, if_neg (by decide), if_neg (by decide), if_pos rfl, if_neg (by decide)]
    rfl
theorem ok96 (n : Nat) : FnOKW C (n + 1) 96 (mkFW s96 G96) := by
  refine fn_ofW hC (sp := sp96) (lp := lp96) (sw := sw96) trivial trivial (by kernel_rfl) [] (by kernel_rfl) rfl (fun k hk => by cases hk) fun ds rr h => ?_
  obtain ⟨k, p, n, m, s, f, rfl⟩ := gop_six h
  obtain ⟨⟨h1, h2, h3, h4⟩, h⟩ := gop_of h
  refine (t96 k p n m s f).trans ?_
  simp only [at0, at60 h2.1, cl_def, st_def]
  refine go_dec h2 (go_dec (by omega) (go_ite (fun c => ?_) fun c => go_dec h2 (go_dec (by omega) (go_if (fun c2 => ?_) fun c2 => go_dec h2 (go_dec (by omega) (go_dec h2 (go_dec (by omega) ?_)))))))
  · have e : ruleP 3 p.I n.I m.I s.L f.L = 5 := by
      unfold ruleP
      rw [if_neg (by decide), if_neg (by decide), if_neg (by decide), if_pos rfl, if_neg (by simpa using c)]
    rw [← h, e]
    unfold nextS nextF
    rw [e, if_neg (by decide), if_neg (by decide)]
    rfl
  · have e : ruleP 3 p.I n.I m.I s.L f.L = 6 := by
      unfold ruleP
      rw [if_neg (by decide), if_neg (by decide), if_neg (by decide), if_pos rfl, if_pos (by simpa using c), if_pos c2]
    rw [← h, e]
    unfold nextS nextF
    rw [e, if_neg (by decide), if_neg (by decide)]
    rfl
  · have e : ruleP 3 p.I n.I m.I s.L f.L = 0 := by
      unfold ruleP
      rw [if_neg (by decide), if_neg (by decide), if_neg (by decide), if_pos rfl, if_pos (by simpa using c), if_neg c2]
    rw [← h, e]
    unfold nextS nextF
    rw [e, if_pos rfl, if_neg (by decide), if_neg (by decide), if_neg (by decide), if_pos rfl, if_neg (by decide)]
    rfl
theorem ok97 (n : Nat) : FnOKW C (n + 1) 97 (mkFW s97 G97) := by
  refine fn_ofW hC (sp := sp97) (lp := lp97) (sw := sw97) trivial trivial (by kernel_rfl) [] (by kernel_rfl) rfl (fun k hk => by cases hk) fun ds rr h => ?_
  obtain ⟨k, p, n, m, s, f, rfl⟩ := gop_six h
  obtain ⟨⟨h1, h2, h3, h4⟩, h⟩ := gop_of h
  refine (t97 k p n m s f).trans ?_
  simp only [at0, cl_def, st_def]
  have r5 : ruleP 5 p.I n.I m.I s.L f.L = if n.I = p.I ∨ 60 ≤ n.I then 7 else if cl s.L p.I < 0 ∨ cl s.L n.I < 0 then 8 else 0 := by
    unfold ruleP
    rw [if_neg (by decide), if_neg (by decide), if_neg (by decide), if_neg (by decide)]
  have bad : ∀ v, ruleP 5 p.I n.I m.I s.L f.L = v → v ≠ 0 → some [D.i v, .l s.L, .l f.L] = some rr := fun v e hv => by
    rw [← h, e]
    unfold nextS nextF
    rw [e, if_neg hv, if_neg (by decide)]
  refine go_ite (fun c => ?_) fun c => go_if (fun c2 => ?_) fun c2 => go_dec h2 (go_dec ⟨h3, by omega⟩ (go_dec (by omega) (go_if (fun c3 => ?_) fun c3 => go_dec (by omega) (go_if (fun c4 => ?_) fun c4 => go_dec (by omega) (go_dec (by omega) (go_dec (by omega) (go_dec (by omega) ?_))))))) 
  · exact bad 7 (by rw [r5, if_pos (.inl (by simpa using c))]) (by decide)
  · exact bad 7 (by rw [r5, if_pos (.inr c2)]) (by decide)
  · have c' : ¬ n.I = p.I := by simpa using c
    exact bad 8 (by rw [r5, if_neg (by omega), if_pos (.inl c3)]) (by decide)
  · have c' : ¬ n.I = p.I := by simpa using c
    exact bad 8 (by rw [r5, if_neg (by omega), if_pos (.inr c4)]) (by decide)
  · have c' : ¬ n.I = p.I := by simpa using c
    have e : ruleP 5 p.I n.I m.I s.L f.L = 0 := by rw [r5, if_neg (by omega), if_neg (by omega)]
    rw [← h, e]
    unfold nextS nextF
    rw [e, if_pos rfl, if_neg (by decide), if_neg (by decide), if_neg (by decide), if_neg (by decide), if_neg (by decide)]
    rfl
theorem ok72 (n : Nat) : FnOK C (n + 1) 72 (mkF s72 Gcl) := by
  refine clone_ok (ks := [.int .i64]) (by kernel_rfl) (fun kd c0 => by cases kd <;> cases c0 <;> kernel_rfl) ?_
  refine fn_ofS hC (sp := sp72) (lp := lp72) (sw := sw72) trivial trivial (by kernel_rfl) [] (by kernel_rfl) rfl (fun k hk => by cases hk) fun ds rr h => ?_
  unfold Gcl1 at h
  split at h
  · rename_i l
    obtain ⟨hp, h⟩ := need_some h
    rw [yes_iff] at hp
    obtain ⟨h1, h2⟩ := hp
    refine (t72 l).trans ?_
    have hne : l.L.isEmpty = false := by cases hl : l.L with
      | nil => exact absurd hl h1
      | cons c cs => rfl
    rw [bytes3]
    exact go_need (by rw [hne]; rfl) (go_false hne (go_dec (by omega) h))
  · cases h
theorem ok43_4 (n : Nat) : LoopSim C (n + 1) 43 (loopOf C.P 43 4) (mkL l43_4 G43_4) := by
  refine loop_ofK hC (sp := sp43) (lp := lp43) (sw := sw43) ⟨ok50 n, trivial⟩ trivial 0 [] (by kernel_rfl) rfl (fun k hk => by cases hk) (by kernel_rfl) (fun ds => (((ds.getD 0 default).L.length : Int) - (ds.getD 1 default).I).toNat) fun ds rr h => ?_
  unfold G43_4 at h
  split at h
  · rename_i l i
    obtain ⟨hp, h⟩ := need_some h
    rw [yes_iff] at hp
    obtain ⟨h1, h2, h3⟩ := hp
    refine ⟨by rw [fuelC]; simp only [List.getD_cons_zero, List.getD_cons_succ]; omega, ?_⟩
    rw [show (roundTK C (mkTab sp43 lp43 sw43) 43 (loopOf C.P 43 4) 0 l43_4 [l, i]).run = _ from t43_4 l i]
    obtain ⟨q, hq⟩ : ∃ q : Nat, i.I = q := ⟨i.I.toNat, by omega⟩
    simp only [hq, Int.toNat_natCast] at h h3 ⊢
    have x0 : ∀ j : Nat, (List.getD (List.getD l.L j []) 0 default).I = eK l.L j := fun _ => rfl
    have x1 : ∀ j : Nat, (List.getD (List.getD l.L j []) (0 + 1) default).I = eP l.L j := fun _ => rfl
    have x2 : ∀ j : Nat, (List.getD (List.getD l.L j []) (0 + 1 + 1) default).I = eN l.L j := fun _ => rfl
    have x3 : ∀ j : Nat, (List.getD (List.getD l.L j []) (0 + 1 + 1 + 1) default).I = eM l.L j := fun _ => rfl
    simp only [x0, x1, x2, x3]
    refine rd_if (fun hlt => ?_) fun hge => rd_out (all_end h (by omega))
    have hql : q < l.L.length := by omega
    obtain ⟨s1, s2⟩ := all_step h hql
    have bad : logAt l.L q = false → RdOK G43_4 (fun ds => (((ds.getD 0 default).L.length : Int) - (ds.getD 1 default).I).toNat) [l, i] rr (T.leaf (Rd.out Ex.ret [D.b false])).run := fun e => rd_out (s1 e)
    have good : logAt l.L q = true → RdOK G43_4 (fun ds => (((ds.getD 0 default).L.length : Int) - (ds.getD 1 default).I).toNat) [l, i] rr (T.leaf (Rd.again [D.l l.L, D.i (IntKind.wrap .i64 ((q : Int) + 1))])).run := fun e => by
      rw [wrap_succ (by omega)]
      exact rd_again ((need_yes ⟨h1, by simp only [I_i]; omega, by simp only [I_i, L_l]; omega⟩).trans (s2 e)) (show ((l.L.length : Int) - ((q + 1 : Nat) : Int)).toNat < ((l.L.length : Int) - i.I).toNat by omega)
    refine rd_dec ⟨by omega, by omega⟩ (rd_if (fun c => bad ?_) fun c1 => rd_dec ⟨by omega, by omega⟩ (rd_if (fun c => bad ?_) fun c2 => rd_dec ⟨by omega, by omega⟩ (rd_not (fun c => bad ?_) fun c3 => rd_dec ⟨by omega, by omega⟩ (rd_not (fun c => bad ?_) fun c4 => rd_dec ⟨by omega, by omega⟩ (rd_not (fun c => bad ?_) fun c5 => rd_if (fun c6 => ?_) fun c6 => good ?_)))))
    · unfold logAt
      cases e : within (eK l.L q) 1 5 with
      | false => rfl
      | true => have := Lite.within_iff.1 e; omega
    · unfold logAt
      cases e : within (eK l.L q) 1 5 with
      | false => rfl
      | true => have := Lite.within_iff.1 e; omega
    · unfold logAt
      rw [c, Bool.false_and, Bool.and_false]
    · unfold logAt
      rw [c, Bool.false_and, Bool.and_false, Bool.and_false]
    · unfold logAt
      rw [c, Bool.false_and, Bool.and_false, Bool.and_false, Bool.and_false]
    · rw [wrap_id (x := (q : Int) - 1) (by omega) (by omega), show ((q : Int) - 1).toNat = q - 1 by omega]
      have k1 : within (eK l.L q) 1 5 = true := Lite.within_iff.2 (by omega)
      refine rd_dec ⟨by omega, by omega⟩ (rd_dec ⟨by omega, by omega⟩ (rd_if (fun c7 => bad ?_) fun c7 => good ?_))
      · unfold logAt
        rw [k1, c3, c4, c5, decide_eq_false (show ¬ q = 0 by omega), decide_eq_false (by omega)]
        rfl
      · unfold logAt
        rw [k1, c3, c4, c5, decide_eq_false (show ¬ q = 0 by omega), decide_eq_true (by omega)]
        rfl
    · have k1 : within (eK l.L q) 1 5 = true := Lite.within_iff.2 (by omega)
      unfold logAt
      rw [k1, c3, c4, c5, decide_eq_true (show q = 0 by omega)]
      rfl
  · cases h
theorem ok43 (n : Nat) : FnOK C (n + 2) 43 (mkF s43 G43) := by
  refine fn_ofS hC (sp := sp43) (lp := lp43) (sw := sw43) ⟨ok50 n, trivial⟩ trivial (by kernel_rfl) [4] (by kernel_rfl) (by kernel_rfl) (fun k hk L hL => by simp at hk; subst hk; cases hL; exact ok43_4 n) fun ds rr h => ?_
  unfold G43 at h
  split at h
  · rename_i l
    refine (t43 l).trans ?_
    rw [← h]
    simp only [Int.toNat_zero, Nat.sub_zero]
    refine go_if (fun c => ?_) fun c => go_yes ⟨by omega, by omega, by omega⟩ (go_ite (fun c2 => ?_) fun c2 => ?_)
    · unfold logOk
      rw [decide_eq_false (by omega)]
      rfl
    · unfold logOk
      rw [decide_eq_true (by omega), c2]
      rfl
    · unfold logOk
      rw [decide_eq_true (by omega), c2]
      rfl
  · cases h
set_option maxRecDepth 100000
theorem allB {p : Nat → Bool} : ∀ {k i : Nat}, allFrom p i k = true ↔ ∀ j, i ≤ j → j < i + k → p j = true
  | 0, i => ⟨fun _ j h1 h2 => by omega, fun _ => rfl⟩
  | k + 1, i => by
    simp only [allFrom, Bool.and_eq_true, allB (k := k) (i := i + 1)]
    constructor
    · rintro ⟨h1, h2⟩ j h3 h4
      by_cases e : j = i
      · subst e; exact h1
      · exact h2 j (by omega) (by omega)
    · exact fun h => ⟨h i (Nat.le_refl _) (by omega), fun j h3 h4 => h j (by omega) (by omega)⟩
theorem log_at {l : List (List D)} (h : logOk l = true) {i : Nat} (hi : i < l.length) : (1 ≤ eK l i ∧ eK l i ≤ 5) ∧ (0 ≤ eP l i ∧ eP l i ≤ 59) ∧ (0 ≤ eN l i ∧ eN l i ≤ 1000000) ∧ (0 ≤ eM l i ∧ eM l i ≤ 1000000) ∧ (i = 0 ∨ eM l (i - 1) ≤ eM l i) := by
  unfold logOk at h
  rw [Bool.and_eq_true] at h
  have := allB.1 h.2 i (Nat.zero_le _) (by omega)
  unfold logAt at this
  simpa only [Bool.and_eq_true, Lite.within_iff, Bool.or_eq_true, decide_eq_true_eq] using this
theorem log_len {l : List (List D)} (h : logOk l = true) : l.length ≤ 1000 := by
  unfold logOk at h
  rw [Bool.and_eq_true] at h
  exact of_decide_eq_true h.1
theorem part_set {n i : Nat} (h : i < n) : (part n i).set i [.i (-1)] = part n (i + 1) := by
  unfold part minus
  have e : ∀ (p r : List (List D)) (x y : List D), (p ++ y :: r).set p.length x = p ++ x :: r := fun p r x y => by
    induction p with
    | nil => rfl
    | cons a p ih => simp only [List.cons_append, List.length_cons, List.set_cons_succ, ih]
  rw [show n - i = (n - (i + 1)) + 1 by omega, List.replicate_succ]
  have := e (List.replicate i [D.i (-1)]) (List.replicate (n - (i + 1)) [D.i 0]) [D.i (-1)] [D.i 0]
  rw [List.length_replicate] at this
  rw [this, List.replicate_succ', List.append_assoc]
  rfl
theorem len_part {n i : Nat} (h : i ≤ n) : (part n i).length = n := by
  unfold part minus
  rw [List.length_append, List.length_replicate, List.length_replicate]
  omega
theorem part_all (n : Nat) : part n n = minus n := by
  unfold part minus
  rw [Nat.sub_self]
  simp
theorem part_0 (n : Nat) : part n 0 = List.replicate n [.i 0] := by
  unfold part minus
  simp
set_option maxRecDepth 100000
theorem roundTK_head {C : Cfg} {tab : Tab} {f : FuncId} {b : Code} {k : Nat} {s : LSig} {j : D} {n : Int} {r : List D} (h : j.I = n) (hs : 2 ≤ s.head.length) : roundTK C tab f b k s (j :: r) = roundTK C tab f b k s (.i n :: r) := by
  obtain ⟨live, head, exits⟩ := s
  match head, hs with
  | a :: b :: c, _ => simp only [roundTK, roundTG, headL, headA, List.headD_cons, List.tail_cons, I_i, h]
theorem bytes82 : Try.prog.types[82].bytes = 16 := by kernel_rfl
theorem len_stS (s : List (List D)) (j v : Int) : (stS s j v).length = s.length := List.length_set
theorem len_docS (l s : List (List D)) (i : Nat) : (docS l i s).length = s.length := by
  unfold docS
  repeat' split
  all_goals simp only [len_stS]
theorem len_docT (l t : List (List D)) (i : Nat) : (docT l i t).length = t.length := by
  unfold docT
  repeat' split
  all_goals simp only [len_stS]
theorem swap_lt {l s t : List (List D)} {i : Nat} (h : ruleD l i s t = 0) (c1 : eK l i ≠ 1) (c2 : eK l i ≠ 2) (c4 : eK l i ≠ 4) (c3 : eK l i ≠ 3) : eN l i < 60 := by
  unfold ruleD at h
  rw [if_neg c1, if_neg c2, if_neg c4, if_neg c3] at h
  split at h
  · cases h
  · omega
set_option maxRecDepth 100000
section
variable {S T : List (List D)} {p : Int}
theorem cl_app1 (hS : S.length = 60) (h : 0 ≤ p ∧ p < 60) : cl (S ++ T) p = cl S p := by
  unfold cl
  rw [List.getD_eq_getElem?_getD, List.getElem?_append_left (by omega), ← List.getD_eq_getElem?_getD]
theorem cl_app2 (hS : S.length = 60) (h : 0 ≤ p) : cl (S ++ T) (60 + p) = cl T p := by
  unfold cl
  rw [List.getD_eq_getElem?_getD, List.getElem?_append_right (by omega), ← List.getD_eq_getElem?_getD, show (60 + p).toNat - S.length = p.toNat by omega]
theorem st_app1 (hS : S.length = 60) (h : 0 ≤ p ∧ p < 60) (v : Int) : stS (S ++ T) p v = stS S p v ++ T := by
  unfold stS
  rw [List.set_append_left _ _ (by omega)]
theorem st_app2 (hS : S.length = 60) (h : 0 ≤ p) (v : Int) : stS (S ++ T) (60 + p) v = S ++ stS T p v := by
  unfold stS
  rw [List.set_append_right _ _ (by omega), show (60 + p).toNat - S.length = p.toNat by omega]
end
theorem mfind_any {kk : List K} {key : List D} : ∀ {l : List (List D)} {i : Nat}, (mfind kk key l i).isSome = l.any (fun c => eqKs kk key c 0)
  | [], _ => rfl
  | c :: r, i => by
    simp only [mfind, List.any_cons]
    split
    · rename_i h
      rw [h]
      rfl
    · rename_i h
      rw [Bool.eq_false_iff.2 h, Bool.false_or]
      exact mfind_any
theorem mfind_at {kk : List K} {key : List D} : ∀ {l : List (List D)} {i q : Nat}, mfind kk key l i = some q → i ≤ q ∧ q - i < l.length ∧ eqKs kk key (l.getD (q - i) []) 0 = true
  | [], _, _, h => by simp [mfind] at h
  | c :: r, i, q, h => by
    simp only [mfind] at h
    split at h
    · rename_i e
      simp only [Option.some.injEq] at h
      subst h
      exact ⟨Nat.le_refl _, by simp, by rw [Nat.sub_self]; exact e⟩
    · obtain ⟨h1, h2, h3⟩ := mfind_at h
      refine ⟨by omega, by simp only [List.length_cons]; omega, ?_⟩
      rw [show q - i = (q - (i + 1)) + 1 by omega, List.getD_cons_succ]
      exact h3
theorem hasN_any (f : List (List D)) (n : Int) : hasN f n = f.any (fun c => n == (c.getD 0 default).I) := by
  unfold hasN mhas
  rw [mfind_any]
  congr 1
  funext c
  simp only [eqKs, eqD, List.getD_cons_zero, D.I, Bool.and_true]
theorem mset_is {f : List (List D)} (hf : okF f) (n : Int) : msetD [.int .i64] [.i n] (.b true) f = if hasN f n = true then f else f ++ [[.i n, .b true]] := by
  unfold msetD
  cases e : mfind [.int .i64] [.i n] f 0 with
  | none =>
    have h : hasN f n = false := by
      unfold hasN mhas
      rw [e]
      rfl
    rw [h]
    rfl
  | some q =>
    have h : hasN f n = true := by
      unfold hasN mhas
      rw [e]
      rfl
    rw [if_pos h]
    obtain ⟨-, h2, h3⟩ := mfind_at e
    rw [Nat.sub_zero] at h2 h3
    have hg : f.getD q [] = f[q] := by rw [List.getD_eq_getElem?_getD, List.getElem?_eq_getElem h2]; rfl
    obtain ⟨x, hx⟩ := hf f[q] (List.getElem_mem h2)
    rw [hg, hx] at h3
    simp only [eqKs, eqD, List.getD_cons_zero, D.I, Bool.and_true, beq_iff_eq] at h3
    subst h3
    show f.set q [.i n, .b true] = f
    rw [← hx, List.set_getElem_self]
theorem okF_mset {f : List (List D)} (hf : okF f) (n : Int) : okF (msetD [.int .i64] [.i n] (.b true) f) := by
  rw [mset_is hf]
  split
  · exact hf
  · intro c hc
    rcases List.mem_append.1 hc with hc | hc
    · exact hf c hc
    · exact ⟨n, List.mem_singleton.1 hc⟩
theorem hasN_mset {f : List (List D)} (hf : okF f) (n x : Int) : hasN (msetD [.int .i64] [.i n] (.b true) f) x = (x == n || hasN f x) := by
  rw [mset_is hf]
  split
  · rename_i h
    by_cases e : x = n
    · subst e
      rw [h]
      simp
    · rw [beq_eq_false_iff_ne.2 e, Bool.false_or]
  · rw [hasN_any, hasN_any, List.any_append, Bool.or_comm]
    simp only [List.any_cons, List.any_nil, List.getD_cons_zero, D.I, Bool.or_false]
theorem anyFit_iff {l : List (List D)} {n : Int} {i k : Nat} : anyFit l n i k = true ↔ ∃ j, i ≤ j ∧ j < i + k ∧ fitB l n j = true := by
  unfold anyFit
  rw [Bool.not_eq_true', ← Bool.not_eq_true, allB]
  constructor
  · intro h
    apply Classical.byContradiction
    intro h2
    refine h fun j h3 h4 => ?_
    cases e : fitB l n j with
    | true => exact absurd ⟨j, h3, h4, e⟩ h2
    | false => rfl
  · rintro ⟨j, h1, h2, h3⟩ h
    have := h j h1 h2
    rw [h3] at this
    cases this
theorem anyFit_succ (l : List (List D)) (n : Int) (i : Nat) : anyFit l n 0 (i + 1) = (anyFit l n 0 i || fitB l n i) := by
  rw [Bool.eq_iff_iff, Bool.or_eq_true, anyFit_iff, anyFit_iff]
  constructor
  · rintro ⟨j, h1, h2, h3⟩
    by_cases e : j = i
    · subst e; exact .inr h3
    · exact .inl ⟨j, h1, by omega, h3⟩
  · rintro (⟨j, h1, h2, h3⟩ | h)
    · exact ⟨j, h1, by omega, h3⟩
    · exact ⟨i, Nat.zero_le _, by omega, h⟩
structure Both (l : List (List D)) (i : Nat) (s f S T : List (List D)) : Prop where
  row : s = S ++ T
  lS : S.length = 60
  lT : T.length = 60
  ok : okF f
  fit : ∀ n, hasN f n = anyFit l n 0 i
section
variable {l s f S T : List (List D)} {i : Nat}
theorem Both.rule (B : Both l i s f S T) (hl : logOk l = true) (hi : i < l.length) : ruleP (eK l i) (eP l i) (eN l i) (eM l i) s f = ruleD l i S T := by
  obtain ⟨g1, g2, g3, g4, -⟩ := log_at hl hi
  obtain rfl := B.row
  unfold ruleP ruleD
  rw [cl_app1 B.lS (by omega), cl_app2 B.lS (by omega), B.fit]
  split
  · rfl
  split
  · rfl
  split
  · rfl
  split
  · rfl
  split
  · rfl
  · rw [cl_app1 B.lS (by omega)]
theorem Both.next (B : Both l i s f S T) (hl : logOk l = true) (hi : i < l.length) (hr : ruleD l i S T = 0) : Both l (i + 1) (nextS (eK l i) (eP l i) (eN l i) (eM l i) s f) (nextF (eK l i) (eN l i) f) (docS l i S) (docT l i T) where
  row := by
    obtain ⟨g1, g2, g3, g4, -⟩ := log_at hl hi
    unfold nextS
    rw [B.rule hl hi, hr, if_pos rfl]
    obtain rfl := B.row
    unfold docS docT
    by_cases c1 : eK l i = 1
    · rw [if_pos c1, if_pos c1, if_neg (by omega), if_neg (by omega), st_app1 B.lS (by omega)]
    by_cases c2 : eK l i = 2
    · rw [if_neg c1, if_pos c2, if_neg c1, if_pos c2, if_neg (by omega), if_neg (by omega)]
    by_cases c4 : eK l i = 4
    · rw [if_neg c1, if_neg c2, if_pos c4, if_neg c1, if_neg c2, if_pos c4, if_pos c4, st_app2 B.lS (by omega)]
    by_cases c3 : eK l i = 3
    · rw [if_neg c1, if_neg c2, if_neg c4, if_pos c3, if_neg c1, if_neg c2, if_neg c4, if_pos c3, if_neg c4, if_pos c3, st_app1 B.lS (by omega), st_app2 (by rw [len_stS]; exact B.lS) (by omega)]
    · have h60 := swap_lt hr c1 c2 c4 c3
      rw [if_neg c1, if_neg c2, if_neg c4, if_neg c3, if_neg c1, if_neg c2, if_neg c4, if_neg c3, if_neg c4, if_neg c3, cl_app1 B.lS (by omega), cl_app1 B.lS (by omega), st_app1 B.lS (by omega), st_app1 (by rw [len_stS]; exact B.lS) (by omega)]
  lS := by rw [len_docS]; exact B.lS
  lT := by rw [len_docT]; exact B.lT
  ok := by
    unfold nextF
    split
    · exact okF_mset B.ok _
    · exact B.ok
  fit := fun n => by
    rw [anyFit_succ, ← B.fit]
    unfold nextF fitB
    split
    · rename_i c
      rw [hasN_mset B.ok, c, Bool.or_comm]
      simp only [beq_self_eq_true, Bool.true_and]
      congr 1
      rw [Bool.eq_iff_iff, beq_iff_eq, beq_iff_eq]
      exact eq_comm
    · rename_i c
      rw [beq_eq_false_iff_ne.2 c, Bool.false_and, Bool.or_false]
theorem Both.stay (B : Both l i s f S T) (hl : logOk l = true) (hi : i < l.length) (hr : ruleD l i S T ≠ 0) : Both l (i + 1) (nextS (eK l i) (eP l i) (eN l i) (eM l i) s f) (nextF (eK l i) (eN l i) f) S T where
  row := by
    unfold nextS
    rw [B.rule hl hi, if_neg hr]
    exact B.row
  lS := B.lS
  lT := B.lT
  ok := by
    unfold nextF
    split
    · exact okF_mset B.ok _
    · exact B.ok
  fit := fun n => by
    rw [anyFit_succ, ← B.fit]
    unfold nextF fitB
    split
    · rename_i c
      rw [hasN_mset B.ok, c, Bool.or_comm]
      simp only [beq_self_eq_true, Bool.true_and]
      congr 1
      rw [Bool.eq_iff_iff, beq_iff_eq, beq_iff_eq]
      exact eq_comm
    · rename_i c
      rw [beq_eq_false_iff_ne.2 c, Bool.false_and, Bool.or_false]
end
theorem run_eq {l : List (List D)} (hl : logOk l = true) : ∀ (k i : Nat) {s f S T : List (List D)}, i + k = l.length → Both l i s f S T → (runP l i k s f).1 = (runD l i k S T).1 ∧ (runP l i k s f).2.1.take 60 = (runD l i k S T).2
  | 0, i, s, f, S, T, _, B => by
    refine ⟨rfl, ?_⟩
    show s.take 60 = S
    rw [B.row, List.take_left' B.lS]
  | k + 1, i, s, f, S, T, hk, B => by
    have hi : i < l.length := by omega
    have hr := B.rule hl hi
    simp only [runP, runD]
    by_cases c : ruleD l i S T = 0
    · obtain ⟨h1, h2⟩ := run_eq hl k (i + 1) (by omega) (B.next hl hi c)
      rw [if_pos c, hr, if_pos c]
      exact ⟨h1, h2⟩
    · obtain ⟨h1, h2⟩ := run_eq hl k (i + 1) (by omega) (B.stay hl hi c)
      rw [if_neg c, hr, if_neg c, h1]
      exact ⟨rfl, h2⟩
theorem both_0 (l : List (List D)) : Both l 0 (minus 120) [] (minus 60) (minus 60) where
  row := by
    unfold minus
    rw [List.replicate_append_replicate]
  lS := by unfold minus; rw [List.length_replicate]
  lT := by unfold minus; rw [List.length_replicate]
  ok := fun c hc => by cases hc
  fit := fun n => rfl
def canon1 (s : List (List D)) : Prop := ∀ j, j < s.length → s.getD j [] = [.i (ix (s.getD j []) 0)]
theorem canon_st {s : List (List D)} (h : canon1 s) (j v : Int) : canon1 (stS s j v) := fun i hi => by
  rw [len_stS] at hi
  unfold stS
  by_cases e : i = j.toNat
  · subst e
    rw [List.getD_eq_getElem?_getD, List.getElem?_set_self hi]
    rfl
  · have h1 : (s.set j.toNat [.i v]).getD i [] = s.getD i [] := by rw [List.getD_eq_getElem?_getD, List.getD_eq_getElem?_getD, List.getElem?_set_ne (fun h => e h.symm)]
    rw [h1]
    exact h i hi
theorem canon_next {k p n m : Int} {s f : List (List D)} (h : canon1 s) : canon1 (nextS k p n m s f) := by
  unfold nextS
  repeat' split
  all_goals first
    | exact h
    | exact canon_st h _ _
    | exact canon_st (canon_st h _ _) _ _
theorem len_next {k p n m : Int} {s f : List (List D)} : (nextS k p n m s f).length = s.length := by
  unfold nextS
  repeat' split
  all_goals simp only [len_stS]
theorem canon_run {l : List (List D)} : ∀ (k i : Nat) {s f : List (List D)}, canon1 s → canon1 (runP l i k s f).2.1 ∧ (runP l i k s f).2.1.length = s.length
  | 0, _, _, _, h => ⟨h, rfl⟩
  | k + 1, i, s, f, h => by
    simp only [runP]
    obtain ⟨h1, h2⟩ := canon_run (l := l) k (i + 1) (f := nextF (eK l i) (eN l i) f) (canon_next (k := eK l i) (p := eP l i) (n := eN l i) (m := eM l i) (f := f) h)
    exact ⟨h1, h2.trans len_next⟩
theorem canon_minus (n : Nat) : canon1 (minus n) := fun j hj => by
  unfold minus at hj ⊢
  rw [List.length_replicate] at hj
  rw [List.getD_eq_getElem?_getD, List.getElem?_replicate, if_pos hj]
  rfl
theorem rowA_take {X : List (List D)} (h : canon1 X) (hl : 60 ≤ X.length) : rowA X = X.take 60 := by
  unfold rowA
  refine List.ext_getElem (by simp; omega) fun j h1 h2 => ?_
  have hj : j < 60 := by simpa using h1
  rw [List.getElem_map, List.getElem_range, List.getElem_take]
  have := h j (by omega)
  rw [← this, List.getD_eq_getElem?_getD, List.getElem?_eq_getElem (by omega)]
  rfl
theorem seals_eq {l : List (List D)} (hl : logOk l = true) : faultsP l = faultsD l ∧ sealsP l = sealsD l := by
  obtain ⟨h1, h2⟩ := run_eq hl l.length 0 (by omega) (both_0 l)
  obtain ⟨h3, h4⟩ := canon_run (l := l) l.length 0 (f := []) (canon_minus 120)
  have h5 : (minus 120).length = 120 := by unfold minus; rw [List.length_replicate]
  refine ⟨h1, ?_⟩
  unfold sealsP sealsD
  rw [rowA_take h3 (by omega)]
  exact h2
set_option linter.unusedVariables false
set_option maxRecDepth 100000
theorem t42_4 (a b c d : D) : (roundT C tab42 42 (loopOf C.P 42 4) l42_4 [a, b, c, d]).run =
  T.run (T.ite (decide (d.I < c.I)) (T.need (decide ((0 : Int) ≤ d.I ∧ d.I < (b.L.length : Int))) (T.ite (decide (D.I (List.getD (List.getD b.L d.I.toNat []) 0 default) < (1 : Int))) (T.leaf (Rd.out Ex.ret [D.i 2])) (T.ite (decide (D.I (List.getD (List.getD b.L d.I.toNat []) 0 default) > (5 : Int))) (T.leaf (Rd.out Ex.ret [D.i 2])) (T.ite (!within (D.I (List.getD (List.getD b.L d.I.toNat []) (0 + 1) default)) (0 : Int) (59 : Int)) (T.leaf (Rd.out Ex.ret [D.i 2])) (T.ite (!within (D.I (List.getD (List.getD b.L d.I.toNat []) (0 + 1 + 1) default)) (0 : Int) (1000000 : Int)) (T.leaf (Rd.out Ex.ret [D.i 2])) (T.ite (!within (D.I (List.getD (List.getD b.L d.I.toNat []) (0 + 1 + 1 + 1) default)) (0 : Int) (1000000 : Int)) (T.leaf (Rd.out Ex.ret [D.i 2])) (T.ite (decide (d.I > (0 : Int))) (T.need (decide ((0 : Int) ≤ IntKind.wrap IntKind.i64 (d.I - (1 : Int)) ∧ IntKind.wrap IntKind.i64 (d.I - (1 : Int)) < (a.L.length : Int))) (T.ite (decide (D.I (List.getD (List.getD b.L d.I.toNat []) (0 + 1 + 1 + 1) default) < D.I (List.getD (List.getD a.L (Int.toNat (IntKind.wrap IntKind.i64 (d.I - (1 : Int)))) []) (0 + 1 + 1 + 1) default))) (T.leaf (Rd.out Ex.ret [D.i 2])) (T.leaf (Rd.again [D.l a.L, D.l b.L, D.i c.I, D.i (IntKind.wrap IntKind.i64 (d.I + (1 : Int)))])))) (T.leaf (Rd.again [D.l a.L, D.l b.L, D.i c.I, D.i (IntKind.wrap IntKind.i64 (d.I + (1 : Int)))]))))))))) (T.leaf (Rd.out (Ex.exit 0) [D.l a.L]))) := by kernel_rfl
theorem t42_11 (a b c d : D) : (roundT C tab42 42 (loopOf C.P 42 11) l42_11 [a, b, c, d]).run =
  T.run (T.ite (decide (b.I < (60 : Int))) (T.need (decide ((0 : Int) ≤ b.I ∧ b.I < (↑60 : Int))) (T.need (decide (0 + 0 + b.I.toNat * Program.cellsOf Try.prog 3 < 120)) (T.need (decide ((0 : Int) ≤ b.I ∧ b.I < (↑60 : Int))) (T.need (decide (0 + 60 + b.I.toNat * Program.cellsOf Try.prog 3 < 120)) (T.leaf (Rd.again [D.l a.L, D.i (IntKind.wrap IntKind.i64 (b.I + (1 : Int))), D.l (List.set (List.set c.L (0 + 0 + b.I.toNat * Program.cellsOf Try.prog 3) [D.i (-1 : Int)]) (0 + 60 + b.I.toNat * Program.cellsOf Try.prog 3) [D.i (-1 : Int)]), D.l d.L])))))) (T.leaf (Rd.out (Ex.exit 2) [D.l a.L, D.l c.L, D.l d.L]))) := by kernel_rfl
set_option linter.unusedVariables false
set_option maxRecDepth 100000
theorem t42_17_0 (a b c d e : D) : (roundT C tab42 42 (loopOf C.P 42 17) l42_17 [.i 0, a, b, c, d, e]).run =
  T.run (T.ite (decide (c.I < b.I)) (T.need (decide ((0 : Int) ≤ c.I ∧ c.I < (a.L.length : Int))) (T.ite (decide (D.I (List.getD (List.getD a.L c.I.toNat []) 0 default) = (1 : Int))) (T.need (yes (d.L.length = 120 ∧ ((0 : Int) ≤ D.I (List.getD (List.getD a.L c.I.toNat []) (0 + 1) default) ∧ D.I (List.getD (List.getD a.L c.I.toNat []) (0 + 1) default) < (60 : Int)) ∧ (0 : Int) ≤ D.I (List.getD (List.getD a.L c.I.toNat []) (0 + 1 + 1) default) ∧ okF e.L)) (T.ite (ruleP (1 : Int) (D.I (List.getD (List.getD a.L c.I.toNat []) (0 + 1) default)) (D.I (List.getD (List.getD a.L c.I.toNat []) (0 + 1 + 1) default)) (D.I (List.getD (List.getD a.L c.I.toNat []) (0 + 1 + 1 + 1) default)) d.L e.L != (0 : Int)) (T.leaf (Rd.again [D.i 1, D.i 1, D.l a.L, D.i b.I, D.i (IntKind.wrap IntKind.i64 (c.I + (1 : Int))), D.l (nextS (1 : Int) (D.I (List.getD (List.getD a.L c.I.toNat []) (0 + 1) default)) (D.I (List.getD (List.getD a.L c.I.toNat []) (0 + 1 + 1) default)) (D.I (List.getD (List.getD a.L c.I.toNat []) (0 + 1 + 1 + 1) default)) d.L e.L), D.l [[D.i c.I, D.i (ruleP (1 : Int) (D.I (List.getD (List.getD a.L c.I.toNat []) (0 + 1) default)) (D.I (List.getD (List.getD a.L c.I.toNat []) (0 + 1 + 1) default)) (D.I (List.getD (List.getD a.L c.I.toNat []) (0 + 1 + 1 + 1) default)) d.L e.L)]], D.l (nextF (1 : Int) (D.I (List.getD (List.getD a.L c.I.toNat []) (0 + 1 + 1) default)) e.L)])) (T.leaf (Rd.again [D.i 0, D.l a.L, D.i b.I, D.i (IntKind.wrap IntKind.i64 (c.I + (1 : Int))), D.l (nextS (1 : Int) (D.I (List.getD (List.getD a.L c.I.toNat []) (0 + 1) default)) (D.I (List.getD (List.getD a.L c.I.toNat []) (0 + 1 + 1) default)) (D.I (List.getD (List.getD a.L c.I.toNat []) (0 + 1 + 1 + 1) default)) d.L e.L), D.l (nextF (1 : Int) (D.I (List.getD (List.getD a.L c.I.toNat []) (0 + 1 + 1) default)) e.L)])))) (T.ite (decide (D.I (List.getD (List.getD a.L c.I.toNat []) 0 default) = (2 : Int))) (T.need (yes (d.L.length = 120 ∧ ((0 : Int) ≤ D.I (List.getD (List.getD a.L c.I.toNat []) (0 + 1) default) ∧ D.I (List.getD (List.getD a.L c.I.toNat []) (0 + 1) default) < (60 : Int)) ∧ (0 : Int) ≤ D.I (List.getD (List.getD a.L c.I.toNat []) (0 + 1 + 1) default) ∧ okF e.L)) (T.ite (ruleP (2 : Int) (D.I (List.getD (List.getD a.L c.I.toNat []) (0 + 1) default)) (D.I (List.getD (List.getD a.L c.I.toNat []) (0 + 1 + 1) default)) (D.I (List.getD (List.getD a.L c.I.toNat []) (0 + 1 + 1 + 1) default)) d.L e.L != (0 : Int)) (T.leaf (Rd.again [D.i 1, D.i 1, D.l a.L, D.i b.I, D.i (IntKind.wrap IntKind.i64 (c.I + (1 : Int))), D.l (nextS (2 : Int) (D.I (List.getD (List.getD a.L c.I.toNat []) (0 + 1) default)) (D.I (List.getD (List.getD a.L c.I.toNat []) (0 + 1 + 1) default)) (D.I (List.getD (List.getD a.L c.I.toNat []) (0 + 1 + 1 + 1) default)) d.L e.L), D.l [[D.i c.I, D.i (ruleP (2 : Int) (D.I (List.getD (List.getD a.L c.I.toNat []) (0 + 1) default)) (D.I (List.getD (List.getD a.L c.I.toNat []) (0 + 1 + 1) default)) (D.I (List.getD (List.getD a.L c.I.toNat []) (0 + 1 + 1 + 1) default)) d.L e.L)]], D.l (nextF (2 : Int) (D.I (List.getD (List.getD a.L c.I.toNat []) (0 + 1 + 1) default)) e.L)])) (T.leaf (Rd.again [D.i 0, D.l a.L, D.i b.I, D.i (IntKind.wrap IntKind.i64 (c.I + (1 : Int))), D.l (nextS (2 : Int) (D.I (List.getD (List.getD a.L c.I.toNat []) (0 + 1) default)) (D.I (List.getD (List.getD a.L c.I.toNat []) (0 + 1 + 1) default)) (D.I (List.getD (List.getD a.L c.I.toNat []) (0 + 1 + 1 + 1) default)) d.L e.L), D.l (nextF (2 : Int) (D.I (List.getD (List.getD a.L c.I.toNat []) (0 + 1 + 1) default)) e.L)])))) (T.ite (decide (D.I (List.getD (List.getD a.L c.I.toNat []) 0 default) = (4 : Int))) (T.need (yes (d.L.length = 120 ∧ ((0 : Int) ≤ D.I (List.getD (List.getD a.L c.I.toNat []) (0 + 1) default) ∧ D.I (List.getD (List.getD a.L c.I.toNat []) (0 + 1) default) < (60 : Int)) ∧ (0 : Int) ≤ D.I (List.getD (List.getD a.L c.I.toNat []) (0 + 1 + 1) default) ∧ okF e.L)) (T.ite (ruleP (4 : Int) (D.I (List.getD (List.getD a.L c.I.toNat []) (0 + 1) default)) (D.I (List.getD (List.getD a.L c.I.toNat []) (0 + 1 + 1) default)) (D.I (List.getD (List.getD a.L c.I.toNat []) (0 + 1 + 1 + 1) default)) d.L e.L != (0 : Int)) (T.leaf (Rd.again [D.i 1, D.i 1, D.l a.L, D.i b.I, D.i (IntKind.wrap IntKind.i64 (c.I + (1 : Int))), D.l (nextS (4 : Int) (D.I (List.getD (List.getD a.L c.I.toNat []) (0 + 1) default)) (D.I (List.getD (List.getD a.L c.I.toNat []) (0 + 1 + 1) default)) (D.I (List.getD (List.getD a.L c.I.toNat []) (0 + 1 + 1 + 1) default)) d.L e.L), D.l [[D.i c.I, D.i (ruleP (4 : Int) (D.I (List.getD (List.getD a.L c.I.toNat []) (0 + 1) default)) (D.I (List.getD (List.getD a.L c.I.toNat []) (0 + 1 + 1) default)) (D.I (List.getD (List.getD a.L c.I.toNat []) (0 + 1 + 1 + 1) default)) d.L e.L)]], D.l (nextF (4 : Int) (D.I (List.getD (List.getD a.L c.I.toNat []) (0 + 1 + 1) default)) e.L)])) (T.leaf (Rd.again [D.i 0, D.l a.L, D.i b.I, D.i (IntKind.wrap IntKind.i64 (c.I + (1 : Int))), D.l (nextS (4 : Int) (D.I (List.getD (List.getD a.L c.I.toNat []) (0 + 1) default)) (D.I (List.getD (List.getD a.L c.I.toNat []) (0 + 1 + 1) default)) (D.I (List.getD (List.getD a.L c.I.toNat []) (0 + 1 + 1 + 1) default)) d.L e.L), D.l (nextF (4 : Int) (D.I (List.getD (List.getD a.L c.I.toNat []) (0 + 1 + 1) default)) e.L)])))) (T.ite (decide (D.I (List.getD (List.getD a.L c.I.toNat []) 0 default) = (3 : Int))) (T.need (yes (d.L.length = 120 ∧ ((0 : Int) ≤ D.I (List.getD (List.getD a.L c.I.toNat []) (0 + 1) default) ∧ D.I (List.getD (List.getD a.L c.I.toNat []) (0 + 1) default) < (60 : Int)) ∧ (0 : Int) ≤ D.I (List.getD (List.getD a.L c.I.toNat []) (0 + 1 + 1) default) ∧ okF e.L)) (T.ite (ruleP (3 : Int) (D.I (List.getD (List.getD a.L c.I.toNat []) (0 + 1) default)) (D.I (List.getD (List.getD a.L c.I.toNat []) (0 + 1 + 1) default)) (D.I (List.getD (List.getD a.L c.I.toNat []) (0 + 1 + 1 + 1) default)) d.L e.L != (0 : Int)) (T.leaf (Rd.again [D.i 1, D.i 1, D.l a.L, D.i b.I, D.i (IntKind.wrap IntKind.i64 (c.I + (1 : Int))), D.l (nextS (3 : Int) (D.I (List.getD (List.getD a.L c.I.toNat []) (0 + 1) default)) (D.I (List.getD (List.getD a.L c.I.toNat []) (0 + 1 + 1) default)) (D.I (List.getD (List.getD a.L c.I.toNat []) (0 + 1 + 1 + 1) default)) d.L e.L), D.l [[D.i c.I, D.i (ruleP (3 : Int) (D.I (List.getD (List.getD a.L c.I.toNat []) (0 + 1) default)) (D.I (List.getD (List.getD a.L c.I.toNat []) (0 + 1 + 1) default)) (D.I (List.getD (List.getD a.L c.I.toNat []) (0 + 1 + 1 + 1) default)) d.L e.L)]], D.l (nextF (3 : Int) (D.I (List.getD (List.getD a.L c.I.toNat []) (0 + 1 + 1) default)) e.L)])) (T.leaf (Rd.again [D.i 0, D.l a.L, D.i b.I, D.i (IntKind.wrap IntKind.i64 (c.I + (1 : Int))), D.l (nextS (3 : Int) (D.I (List.getD (List.getD a.L c.I.toNat []) (0 + 1) default)) (D.I (List.getD (List.getD a.L c.I.toNat []) (0 + 1 + 1) default)) (D.I (List.getD (List.getD a.L c.I.toNat []) (0 + 1 + 1 + 1) default)) d.L e.L), D.l (nextF (3 : Int) (D.I (List.getD (List.getD a.L c.I.toNat []) (0 + 1 + 1) default)) e.L)])))) (T.ite (decide (D.I (List.getD (List.getD a.L c.I.toNat []) 0 default) = (5 : Int))) (T.need (yes (d.L.length = 120 ∧ ((0 : Int) ≤ D.I (List.getD (List.getD a.L c.I.toNat []) (0 + 1) default) ∧ D.I (List.getD (List.getD a.L c.I.toNat []) (0 + 1) default) < (60 : Int)) ∧ (0 : Int) ≤ D.I (List.getD (List.getD a.L c.I.toNat []) (0 + 1 + 1) default) ∧ okF e.L)) (T.ite (ruleP (5 : Int) (D.I (List.getD (List.getD a.L c.I.toNat []) (0 + 1) default)) (D.I (List.getD (List.getD a.L c.I.toNat []) (0 + 1 + 1) default)) (D.I (List.getD (List.getD a.L c.I.toNat []) (0 + 1 + 1 + 1) default)) d.L e.L != (0 : Int)) (T.leaf (Rd.again [D.i 1, D.i 1, D.l a.L, D.i b.I, D.i (IntKind.wrap IntKind.i64 (c.I + (1 : Int))), D.l (nextS (5 : Int) (D.I (List.getD (List.getD a.L c.I.toNat []) (0 + 1) default)) (D.I (List.getD (List.getD a.L c.I.toNat []) (0 + 1 + 1) default)) (D.I (List.getD (List.getD a.L c.I.toNat []) (0 + 1 + 1 + 1) default)) d.L e.L), D.l [[D.i c.I, D.i (ruleP (5 : Int) (D.I (List.getD (List.getD a.L c.I.toNat []) (0 + 1) default)) (D.I (List.getD (List.getD a.L c.I.toNat []) (0 + 1 + 1) default)) (D.I (List.getD (List.getD a.L c.I.toNat []) (0 + 1 + 1 + 1) default)) d.L e.L)]], D.l (nextF (5 : Int) (D.I (List.getD (List.getD a.L c.I.toNat []) (0 + 1 + 1) default)) e.L)])) (T.leaf (Rd.again [D.i 0, D.l a.L, D.i b.I, D.i (IntKind.wrap IntKind.i64 (c.I + (1 : Int))), D.l (nextS (5 : Int) (D.I (List.getD (List.getD a.L c.I.toNat []) (0 + 1) default)) (D.I (List.getD (List.getD a.L c.I.toNat []) (0 + 1 + 1) default)) (D.I (List.getD (List.getD a.L c.I.toNat []) (0 + 1 + 1 + 1) default)) d.L e.L), D.l (nextF (5 : Int) (D.I (List.getD (List.getD a.L c.I.toNat []) (0 + 1 + 1) default)) e.L)])))) T.fail)))))) (T.leaf (Rd.out (Ex.exit 4) [D.i 0, D.l d.L, D.l e.L]))) := by kernel_rfl
theorem t42_17_1 (a b c d e f g : D) : (roundT C tab42 42 (loopOf C.P 42 17) l42_17 [.i 1, a, b, c, d, e, f, g]).run =
  T.run (T.ite (decide (d.I < c.I)) (T.need (decide ((0 : Int) ≤ d.I ∧ d.I < (b.L.length : Int))) (T.ite (decide (D.I (List.getD (List.getD b.L d.I.toNat []) 0 default) = (1 : Int))) (T.need (yes (e.L.length = 120 ∧ ((0 : Int) ≤ D.I (List.getD (List.getD b.L d.I.toNat []) (0 + 1) default) ∧ D.I (List.getD (List.getD b.L d.I.toNat []) (0 + 1) default) < (60 : Int)) ∧ (0 : Int) ≤ D.I (List.getD (List.getD b.L d.I.toNat []) (0 + 1 + 1) default) ∧ okF g.L)) (T.ite (ruleP (1 : Int) (D.I (List.getD (List.getD b.L d.I.toNat []) (0 + 1) default)) (D.I (List.getD (List.getD b.L d.I.toNat []) (0 + 1 + 1) default)) (D.I (List.getD (List.getD b.L d.I.toNat []) (0 + 1 + 1 + 1) default)) e.L g.L != (0 : Int)) (T.need (decide (a.I.toNat ≤ f.L.length ∧ a.I.toNat + 1 ≤ 2 ^ 62 ∧ (a.I.toNat + 1) * Try.prog.types[82].bytes ≤ 2 ^ 47)) (T.leaf (Rd.again [D.i 1, D.i (↑(a.I.toNat + 1) : Int), D.l b.L, D.i c.I, D.i (IntKind.wrap IntKind.i64 (d.I + (1 : Int))), D.l (nextS (1 : Int) (D.I (List.getD (List.getD b.L d.I.toNat []) (0 + 1) default)) (D.I (List.getD (List.getD b.L d.I.toNat []) (0 + 1 + 1) default)) (D.I (List.getD (List.getD b.L d.I.toNat []) (0 + 1 + 1 + 1) default)) e.L g.L), D.l (List.take a.I.toNat f.L ++ List.take (List.length [[D.i d.I, D.i (ruleP (1 : Int) (D.I (List.getD (List.getD b.L d.I.toNat []) (0 + 1) default)) (D.I (List.getD (List.getD b.L d.I.toNat []) (0 + 1 + 1) default)) (D.I (List.getD (List.getD b.L d.I.toNat []) (0 + 1 + 1 + 1) default)) e.L g.L)]]) [[D.i d.I, D.i (ruleP (1 : Int) (D.I (List.getD (List.getD b.L d.I.toNat []) (0 + 1) default)) (D.I (List.getD (List.getD b.L d.I.toNat []) (0 + 1 + 1) default)) (D.I (List.getD (List.getD b.L d.I.toNat []) (0 + 1 + 1 + 1) default)) e.L g.L)]]), D.l (nextF (1 : Int) (D.I (List.getD (List.getD b.L d.I.toNat []) (0 + 1 + 1) default)) g.L)]))) (T.leaf (Rd.again [D.i 1, D.i (a.I.toNat : Int), D.l b.L, D.i c.I, D.i (IntKind.wrap IntKind.i64 (d.I + (1 : Int))), D.l (nextS (1 : Int) (D.I (List.getD (List.getD b.L d.I.toNat []) (0 + 1) default)) (D.I (List.getD (List.getD b.L d.I.toNat []) (0 + 1 + 1) default)) (D.I (List.getD (List.getD b.L d.I.toNat []) (0 + 1 + 1 + 1) default)) e.L g.L), D.l f.L, D.l (nextF (1 : Int) (D.I (List.getD (List.getD b.L d.I.toNat []) (0 + 1 + 1) default)) g.L)])))) (T.ite (decide (D.I (List.getD (List.getD b.L d.I.toNat []) 0 default) = (2 : Int))) (T.need (yes (e.L.length = 120 ∧ ((0 : Int) ≤ D.I (List.getD (List.getD b.L d.I.toNat []) (0 + 1) default) ∧ D.I (List.getD (List.getD b.L d.I.toNat []) (0 + 1) default) < (60 : Int)) ∧ (0 : Int) ≤ D.I (List.getD (List.getD b.L d.I.toNat []) (0 + 1 + 1) default) ∧ okF g.L)) (T.ite (ruleP (2 : Int) (D.I (List.getD (List.getD b.L d.I.toNat []) (0 + 1) default)) (D.I (List.getD (List.getD b.L d.I.toNat []) (0 + 1 + 1) default)) (D.I (List.getD (List.getD b.L d.I.toNat []) (0 + 1 + 1 + 1) default)) e.L g.L != (0 : Int)) (T.need (decide (a.I.toNat ≤ f.L.length ∧ a.I.toNat + 1 ≤ 2 ^ 62 ∧ (a.I.toNat + 1) * Try.prog.types[82].bytes ≤ 2 ^ 47)) (T.leaf (Rd.again [D.i 1, D.i (↑(a.I.toNat + 1) : Int), D.l b.L, D.i c.I, D.i (IntKind.wrap IntKind.i64 (d.I + (1 : Int))), D.l (nextS (2 : Int) (D.I (List.getD (List.getD b.L d.I.toNat []) (0 + 1) default)) (D.I (List.getD (List.getD b.L d.I.toNat []) (0 + 1 + 1) default)) (D.I (List.getD (List.getD b.L d.I.toNat []) (0 + 1 + 1 + 1) default)) e.L g.L), D.l (List.take a.I.toNat f.L ++ List.take (List.length [[D.i d.I, D.i (ruleP (2 : Int) (D.I (List.getD (List.getD b.L d.I.toNat []) (0 + 1) default)) (D.I (List.getD (List.getD b.L d.I.toNat []) (0 + 1 + 1) default)) (D.I (List.getD (List.getD b.L d.I.toNat []) (0 + 1 + 1 + 1) default)) e.L g.L)]]) [[D.i d.I, D.i (ruleP (2 : Int) (D.I (List.getD (List.getD b.L d.I.toNat []) (0 + 1) default)) (D.I (List.getD (List.getD b.L d.I.toNat []) (0 + 1 + 1) default)) (D.I (List.getD (List.getD b.L d.I.toNat []) (0 + 1 + 1 + 1) default)) e.L g.L)]]), D.l (nextF (2 : Int) (D.I (List.getD (List.getD b.L d.I.toNat []) (0 + 1 + 1) default)) g.L)]))) (T.leaf (Rd.again [D.i 1, D.i (a.I.toNat : Int), D.l b.L, D.i c.I, D.i (IntKind.wrap IntKind.i64 (d.I + (1 : Int))), D.l (nextS (2 : Int) (D.I (List.getD (List.getD b.L d.I.toNat []) (0 + 1) default)) (D.I (List.getD (List.getD b.L d.I.toNat []) (0 + 1 + 1) default)) (D.I (List.getD (List.getD b.L d.I.toNat []) (0 + 1 + 1 + 1) default)) e.L g.L), D.l f.L, D.l (nextF (2 : Int) (D.I (List.getD (List.getD b.L d.I.toNat []) (0 + 1 + 1) default)) g.L)])))) (T.ite (decide (D.I (List.getD (List.getD b.L d.I.toNat []) 0 default) = (4 : Int))) (T.need (yes (e.L.length = 120 ∧ ((0 : Int) ≤ D.I (List.getD (List.getD b.L d.I.toNat []) (0 + 1) default) ∧ D.I (List.getD (List.getD b.L d.I.toNat []) (0 + 1) default) < (60 : Int)) ∧ (0 : Int) ≤ D.I (List.getD (List.getD b.L d.I.toNat []) (0 + 1 + 1) default) ∧ okF g.L)) (T.ite (ruleP (4 : Int) (D.I (List.getD (List.getD b.L d.I.toNat []) (0 + 1) default)) (D.I (List.getD (List.getD b.L d.I.toNat []) (0 + 1 + 1) default)) (D.I (List.getD (List.getD b.L d.I.toNat []) (0 + 1 + 1 + 1) default)) e.L g.L != (0 : Int)) (T.need (decide (a.I.toNat ≤ f.L.length ∧ a.I.toNat + 1 ≤ 2 ^ 62 ∧ (a.I.toNat + 1) * Try.prog.types[82].bytes ≤ 2 ^ 47)) (T.leaf (Rd.again [D.i 1, D.i (↑(a.I.toNat + 1) : Int), D.l b.L, D.i c.I, D.i (IntKind.wrap IntKind.i64 (d.I + (1 : Int))), D.l (nextS (4 : Int) (D.I (List.getD (List.getD b.L d.I.toNat []) (0 + 1) default)) (D.I (List.getD (List.getD b.L d.I.toNat []) (0 + 1 + 1) default)) (D.I (List.getD (List.getD b.L d.I.toNat []) (0 + 1 + 1 + 1) default)) e.L g.L), D.l (List.take a.I.toNat f.L ++ List.take (List.length [[D.i d.I, D.i (ruleP (4 : Int) (D.I (List.getD (List.getD b.L d.I.toNat []) (0 + 1) default)) (D.I (List.getD (List.getD b.L d.I.toNat []) (0 + 1 + 1) default)) (D.I (List.getD (List.getD b.L d.I.toNat []) (0 + 1 + 1 + 1) default)) e.L g.L)]]) [[D.i d.I, D.i (ruleP (4 : Int) (D.I (List.getD (List.getD b.L d.I.toNat []) (0 + 1) default)) (D.I (List.getD (List.getD b.L d.I.toNat []) (0 + 1 + 1) default)) (D.I (List.getD (List.getD b.L d.I.toNat []) (0 + 1 + 1 + 1) default)) e.L g.L)]]), D.l (nextF (4 : Int) (D.I (List.getD (List.getD b.L d.I.toNat []) (0 + 1 + 1) default)) g.L)]))) (T.leaf (Rd.again [D.i 1, D.i (a.I.toNat : Int), D.l b.L, D.i c.I, D.i (IntKind.wrap IntKind.i64 (d.I + (1 : Int))), D.l (nextS (4 : Int) (D.I (List.getD (List.getD b.L d.I.toNat []) (0 + 1) default)) (D.I (List.getD (List.getD b.L d.I.toNat []) (0 + 1 + 1) default)) (D.I (List.getD (List.getD b.L d.I.toNat []) (0 + 1 + 1 + 1) default)) e.L g.L), D.l f.L, D.l (nextF (4 : Int) (D.I (List.getD (List.getD b.L d.I.toNat []) (0 + 1 + 1) default)) g.L)])))) (T.ite (decide (D.I (List.getD (List.getD b.L d.I.toNat []) 0 default) = (3 : Int))) (T.need (yes (e.L.length = 120 ∧ ((0 : Int) ≤ D.I (List.getD (List.getD b.L d.I.toNat []) (0 + 1) default) ∧ D.I (List.getD (List.getD b.L d.I.toNat []) (0 + 1) default) < (60 : Int)) ∧ (0 : Int) ≤ D.I (List.getD (List.getD b.L d.I.toNat []) (0 + 1 + 1) default) ∧ okF g.L)) (T.ite (ruleP (3 : Int) (D.I (List.getD (List.getD b.L d.I.toNat []) (0 + 1) default)) (D.I (List.getD (List.getD b.L d.I.toNat []) (0 + 1 + 1) default)) (D.I (List.getD (List.getD b.L d.I.toNat []) (0 + 1 + 1 + 1) default)) e.L g.L != (0 : Int)) (T.need (decide (a.I.toNat ≤ f.L.length ∧ a.I.toNat + 1 ≤ 2 ^ 62 ∧ (a.I.toNat + 1) * Try.prog.types[82].bytes ≤ 2 ^ 47)) (T.leaf (Rd.again [D.i 1, D.i (↑(a.I.toNat + 1) : Int), D.l b.L, D.i c.I, D.i (IntKind.wrap IntKind.i64 (d.I + (1 : Int))), D.l (nextS (3 : Int) (D.I (List.getD (List.getD b.L d.I.toNat []) (0 + 1) default)) (D.I (List.getD (List.getD b.L d.I.toNat []) (0 + 1 + 1) default)) (D.I (List.getD (List.getD b.L d.I.toNat []) (0 + 1 + 1 + 1) default)) e.L g.L), D.l (List.take a.I.toNat f.L ++ List.take (List.length [[D.i d.I, D.i (ruleP (3 : Int) (D.I (List.getD (List.getD b.L d.I.toNat []) (0 + 1) default)) (D.I (List.getD (List.getD b.L d.I.toNat []) (0 + 1 + 1) default)) (D.I (List.getD (List.getD b.L d.I.toNat []) (0 + 1 + 1 + 1) default)) e.L g.L)]]) [[D.i d.I, D.i (ruleP (3 : Int) (D.I (List.getD (List.getD b.L d.I.toNat []) (0 + 1) default)) (D.I (List.getD (List.getD b.L d.I.toNat []) (0 + 1 + 1) default)) (D.I (List.getD (List.getD b.L d.I.toNat []) (0 + 1 + 1 + 1) default)) e.L g.L)]]), D.l (nextF (3 : Int) (D.I (List.getD (List.getD b.L d.I.toNat []) (0 + 1 + 1) default)) g.L)]))) (T.leaf (Rd.again [D.i 1, D.i (a.I.toNat : Int), D.l b.L, D.i c.I, D.i (IntKind.wrap IntKind.i64 (d.I + (1 : Int))), D.l (nextS (3 : Int) (D.I (List.getD (List.getD b.L d.I.toNat []) (0 + 1) default)) (D.I (List.getD (List.getD b.L d.I.toNat []) (0 + 1 + 1) default)) (D.I (List.getD (List.getD b.L d.I.toNat []) (0 + 1 + 1 + 1) default)) e.L g.L), D.l f.L, D.l (nextF (3 : Int) (D.I (List.getD (List.getD b.L d.I.toNat []) (0 + 1 + 1) default)) g.L)])))) (T.ite (decide (D.I (List.getD (List.getD b.L d.I.toNat []) 0 default) = (5 : Int))) (T.need (yes (e.L.length = 120 ∧ ((0 : Int) ≤ D.I (List.getD (List.getD b.L d.I.toNat []) (0 + 1) default) ∧ D.I (List.getD (List.getD b.L d.I.toNat []) (0 + 1) default) < (60 : Int)) ∧ (0 : Int) ≤ D.I (List.getD (List.getD b.L d.I.toNat []) (0 + 1 + 1) default) ∧ okF g.L)) (T.ite (ruleP (5 : Int) (D.I (List.getD (List.getD b.L d.I.toNat []) (0 + 1) default)) (D.I (List.getD (List.getD b.L d.I.toNat []) (0 + 1 + 1) default)) (D.I (List.getD (List.getD b.L d.I.toNat []) (0 + 1 + 1 + 1) default)) e.L g.L != (0 : Int)) (T.need (decide (a.I.toNat ≤ f.L.length ∧ a.I.toNat + 1 ≤ 2 ^ 62 ∧ (a.I.toNat + 1) * Try.prog.types[82].bytes ≤ 2 ^ 47)) (T.leaf (Rd.again [D.i 1, D.i (↑(a.I.toNat + 1) : Int), D.l b.L, D.i c.I, D.i (IntKind.wrap IntKind.i64 (d.I + (1 : Int))), D.l (nextS (5 : Int) (D.I (List.getD (List.getD b.L d.I.toNat []) (0 + 1) default)) (D.I (List.getD (List.getD b.L d.I.toNat []) (0 + 1 + 1) default)) (D.I (List.getD (List.getD b.L d.I.toNat []) (0 + 1 + 1 + 1) default)) e.L g.L), D.l (List.take a.I.toNat f.L ++ List.take (List.length [[D.i d.I, D.i (ruleP (5 : Int) (D.I (List.getD (List.getD b.L d.I.toNat []) (0 + 1) default)) (D.I (List.getD (List.getD b.L d.I.toNat []) (0 + 1 + 1) default)) (D.I (List.getD (List.getD b.L d.I.toNat []) (0 + 1 + 1 + 1) default)) e.L g.L)]]) [[D.i d.I, D.i (ruleP (5 : Int) (D.I (List.getD (List.getD b.L d.I.toNat []) (0 + 1) default)) (D.I (List.getD (List.getD b.L d.I.toNat []) (0 + 1 + 1) default)) (D.I (List.getD (List.getD b.L d.I.toNat []) (0 + 1 + 1 + 1) default)) e.L g.L)]]), D.l (nextF (5 : Int) (D.I (List.getD (List.getD b.L d.I.toNat []) (0 + 1 + 1) default)) g.L)]))) (T.leaf (Rd.again [D.i 1, D.i (a.I.toNat : Int), D.l b.L, D.i c.I, D.i (IntKind.wrap IntKind.i64 (d.I + (1 : Int))), D.l (nextS (5 : Int) (D.I (List.getD (List.getD b.L d.I.toNat []) (0 + 1) default)) (D.I (List.getD (List.getD b.L d.I.toNat []) (0 + 1 + 1) default)) (D.I (List.getD (List.getD b.L d.I.toNat []) (0 + 1 + 1 + 1) default)) e.L g.L), D.l f.L, D.l (nextF (5 : Int) (D.I (List.getD (List.getD b.L d.I.toNat []) (0 + 1 + 1) default)) g.L)])))) T.fail)))))) (T.leaf (Rd.out (Ex.exit 4) [D.i 1, D.i (a.I.toNat : Int), D.l e.L, D.l f.L, D.l g.L]))) := by kernel_rfl
set_option linter.unusedVariables false
set_option maxRecDepth 100000
theorem t42 (a : D) : (fnT C tab42 42 s42 [a]).run =
  T.run (T.ite (decide ((a.L.length : Int) > (1000 : Int))) (T.leaf [D.i 0, D.i 2]) (T.need (yes (a.L = a.L ∧ a.L.length ≤ 1000 ∧ (a.L.length : Int) = (a.L.length : Int) ∧ (0 : Int) ≤ (0 : Int) ∧ (0 : Int) ≤ (a.L.length : Int))) (T.ite (allFrom (logAt a.L) (Int.toNat (0 : Int)) (a.L.length - Int.toNat (0 : Int))) (T.need (yes (((0 : Int) ≤ (0 : Int) ∧ (0 : Int) ≤ (60 : Int)) ∧ List.replicate 120 [D.i 0] = part 60 (Int.toNat (0 : Int)) ++ part 60 (Int.toNat (0 : Int)))) (T.need (yes ((↑0 : Int) = (0 : Int) ∧ okSt a.L (minus 120) [] (a.L.length : Int) (0 : Int))) (T.ite (List.isEmpty (runP a.L (Int.toNat (0 : Int)) (a.L.length - Int.toNat (0 : Int)) (minus 120) []).fst) (T.need (yes (List.length (rowA (runP a.L (Int.toNat (0 : Int)) (a.L.length - Int.toNat (0 : Int)) (minus 120) []).snd.fst) ≤ 1073741824)) (T.leaf [D.i 1, D.i 60, D.i 0, D.l (rowA (runP a.L (Int.toNat (0 : Int)) (a.L.length - Int.toNat (0 : Int)) (minus 120) []).snd.fst)])) (T.need (yes (List.length (rowA (runP a.L (Int.toNat (0 : Int)) (a.L.length - Int.toNat (0 : Int)) (minus 120) []).snd.fst) ≤ 1073741824)) (T.leaf [D.i 3, D.i (↑(Int.toNat (↑(List.length (runP a.L (Int.toNat (0 : Int)) (a.L.length - Int.toNat (0 : Int)) (minus 120) []).fst) : Int)) : Int), D.i 60, D.i 0, D.l (runP a.L (Int.toNat (0 : Int)) (a.L.length - Int.toNat (0 : Int)) (minus 120) []).fst, D.l (rowA (runP a.L (Int.toNat (0 : Int)) (a.L.length - Int.toNat (0 : Int)) (minus 120) []).snd.fst)]))))) (T.leaf [D.i 0, D.i 2])))) := by kernel_rfl
set_option maxRecDepth 100000
theorem ok71 (n : Nat) : FnOK C (n + 1) 71 (mkF s71 G71) := by
  refine fn_ofS hC (sp := sp71) (lp := lp71) (sw := sw71) trivial trivial (by kernel_rfl) [] (by kernel_rfl) rfl (fun k hk => by cases hk) fun ds rr h => ?_
  unfold G71 at h
  split at h
  · exact (show (fnT C tab71 71 s71 []).run = some [] by kernel_rfl).trans h
  · cases h
theorem all42 (n : Nat) : AllOK C (n + 1) sp42 := ⟨ok47 n, ok71 n, ok72 n, trivial⟩
theorem allw42 (n : Nat) : AllOKW C (n + 1) sw42 := ⟨ok93 n, ok94 n, ok95 n, ok96 n, ok97 n, trivial⟩
theorem ok42_4 (n : Nat) : LoopSim C (n + 1) 42 (loopOf C.P 42 4) (mkL l42_4 G42_4) := by
  refine loop_ofK hC (sp := sp42) (lp := lp42) (sw := sw42) (all42 n) (allw42 n) 0 [] (by kernel_rfl) rfl (fun k hk => by cases hk) (by kernel_rfl) (fun ds => ((ds.getD 2 default).I - (ds.getD 3 default).I).toNat) fun ds rr h => ?_
  unfold G42_4 at h
  split at h
  · rename_i l a c i
    obtain ⟨hp, h⟩ := need_some h
    rw [yes_iff] at hp
    obtain ⟨ha, h1, hc, h2, h3⟩ := hp
    refine ⟨by rw [fuelC]; simp only [List.getD_cons_zero, List.getD_cons_succ]; omega, ?_⟩
    rw [show (roundTK C (mkTab sp42 lp42 sw42) 42 (loopOf C.P 42 4) 0 l42_4 [l, a, c, i]).run = _ from t42_4 l a c i]
    obtain ⟨q, hq⟩ : ∃ q : Nat, i.I = q := ⟨i.I.toNat, by omega⟩
    have x0 : ∀ j : Nat, (List.getD (List.getD l.L j []) 0 default).I = eK l.L j := fun _ => rfl
    have x1 : ∀ j : Nat, (List.getD (List.getD l.L j []) (0 + 1) default).I = eP l.L j := fun _ => rfl
    have x2 : ∀ j : Nat, (List.getD (List.getD l.L j []) (0 + 1 + 1) default).I = eN l.L j := fun _ => rfl
    have x3 : ∀ j : Nat, (List.getD (List.getD l.L j []) (0 + 1 + 1 + 1) default).I = eM l.L j := fun _ => rfl
    simp only [hq, hc, ha, Int.toNat_natCast, x0, x1, x2, x3] at h h3 ⊢
    refine rd_if (fun hlt => ?_) fun hge => rd_out (all_end h (by omega))
    have hql : q < l.L.length := by omega
    obtain ⟨s1, s2⟩ := all_step h hql
    have bad : logAt l.L q = false → RdOK G42_4 (fun ds => ((ds.getD 2 default).I - (ds.getD 3 default).I).toNat) [l, a, c, i] rr (T.leaf (Rd.out Ex.ret [D.i 2])).run := fun e => rd_out (s1 e)
    have good : logAt l.L q = true → RdOK G42_4 (fun ds => ((ds.getD 2 default).I - (ds.getD 3 default).I).toNat) [l, a, c, i] rr (T.leaf (Rd.again [D.l l.L, D.l l.L, D.i (l.L.length : Int), D.i (IntKind.wrap .i64 ((q : Int) + 1))])).run := fun e => by
      rw [wrap_succ (by omega)]
      exact rd_again ((need_yes ⟨rfl, h1, rfl, by simp only [I_i]; omega, by simp only [I_i, L_l]; omega⟩).trans (s2 e)) (show ((l.L.length : Int) - ((q + 1 : Nat) : Int)).toNat < (c.I - i.I).toNat by omega)
    refine rd_dec ⟨by omega, by omega⟩ (rd_if (fun c => bad ?_) fun c1 => rd_if (fun c => bad ?_) fun c2 => rd_not (fun c => bad ?_) fun c3 => rd_not (fun c => bad ?_) fun c4 => rd_not (fun c => bad ?_) fun c5 => rd_if (fun c6 => ?_) fun c6 => good ?_)
    · unfold logAt
      cases e : within (eK l.L q) 1 5 with
      | false => rfl
      | true => have := Lite.within_iff.1 e; omega
    · unfold logAt
      cases e : within (eK l.L q) 1 5 with
      | false => rfl
      | true => have := Lite.within_iff.1 e; omega
    · unfold logAt
      rw [c, Bool.false_and, Bool.and_false]
    · unfold logAt
      rw [c, Bool.false_and, Bool.and_false, Bool.and_false]
    · unfold logAt
      rw [c, Bool.false_and, Bool.and_false, Bool.and_false, Bool.and_false]
    · rw [wrap_id (x := (q : Int) - 1) (by omega) (by omega), show ((q : Int) - 1).toNat = q - 1 by omega]
      have k1 : within (eK l.L q) 1 5 = true := Lite.within_iff.2 (by omega)
      refine rd_dec ⟨by omega, by omega⟩ (rd_if (fun c7 => bad ?_) fun c7 => good ?_)
      · unfold logAt
        rw [k1, c3, c4, c5, decide_eq_false (show ¬ q = 0 by omega), decide_eq_false (by omega)]
        rfl
      · unfold logAt
        rw [k1, c3, c4, c5, decide_eq_false (show ¬ q = 0 by omega), decide_eq_true (by omega)]
        rfl
    · have k1 : within (eK l.L q) 1 5 = true := Lite.within_iff.2 (by omega)
      unfold logAt
      rw [k1, c3, c4, c5, decide_eq_true (show q = 0 by omega)]
      rfl
  · cases h
theorem ok42_11 (n : Nat) : LoopSim C (n + 1) 42 (loopOf C.P 42 11) (mkL l42_11 G42_11) := by
  refine loop_ofK hC (sp := sp42) (lp := lp42) (sw := sw42) (all42 n) (allw42 n) 0 [] (by kernel_rfl) rfl (fun k hk => by cases hk) (by kernel_rfl) (fun ds => (60 - (ds.getD 1 default).I).toNat) fun ds rr h => ?_
  unfold G42_11 at h
  split at h
  · rename_i l i s f
    obtain ⟨hp, h⟩ := need_some h
    rw [yes_iff] at hp
    obtain ⟨hi, hs⟩ := hp
    refine ⟨by rw [fuelC]; simp only [List.getD_cons_zero, List.getD_cons_succ]; omega, ?_⟩
    rw [show (roundTK C (mkTab sp42 lp42 sw42) 42 (loopOf C.P 42 11) 0 l42_11 [l, i, s, f]).run = _ from t42_11 l i s f]
    obtain ⟨q, hq⟩ : ∃ q : Nat, i.I = q := ⟨i.I.toNat, by omega⟩
    have i0 : 0 + 0 + q * Program.cellsOf Try.prog 3 = q := by rw [cells3]; omega
    have i60 : 0 + 60 + q * Program.cellsOf Try.prog 3 = 60 + q := by rw [cells3]; omega
    simp only [hq, hs, Int.toNat_natCast, i0, i60] at h ⊢
    refine rd_if (fun hlt => ?_) fun hge => rd_out ?_
    · have l1 : (part 60 q).length = 60 := len_part (by omega)
      have l2 : (part 60 (q + 1)).length = 60 := len_part (by omega)
      refine rd_dec ⟨by omega, show (q : Int) < ((60 : Nat) : Int) by omega⟩ (rd_dec (by omega) (rd_dec ⟨by omega, show (q : Int) < ((60 : Nat) : Int) by omega⟩ (rd_dec (by omega) ?_)))
      rw [wrap_succ (by omega), List.set_append_left _ _ (by omega), part_set (by omega), List.set_append_right _ _ (by omega), l2, Nat.add_sub_cancel_left, part_set (by omega)]
      exact rd_again ((need_yes ⟨by simp only [I_i]; omega, by simp only [I_i, L_l, Int.toNat_natCast]⟩).trans h) (show (60 - ((q + 1 : Nat) : Int)).toNat < (60 - i.I).toNat by omega)
    · rw [← h]
      have e : q = 60 := by omega
      subst e
      have e2 : minus 60 ++ minus 60 = minus 120 := by
        unfold minus
        rw [List.replicate_append_replicate]
      rw [part_all, e2]
      rfl
  · cases h
theorem runP_good {l s f : List (List D)} {q : Nat} (h : q < l.length) {K : Int} (hK : eK l q = K) (e : ruleP K (eP l q) (eN l q) (eM l q) s f = 0) : runP l q (l.length - q) s f = runP l (q + 1) (l.length - (q + 1)) (nextS K (eP l q) (eN l q) (eM l q) s f) (nextF K (eN l q) f) := by
  rw [show l.length - q = (l.length - (q + 1)) + 1 by omega]
  simp only [runP]
  rw [hK, if_pos e]
theorem runP_bad {l s f : List (List D)} {q : Nat} (h : q < l.length) {K : Int} (hK : eK l q = K) (e : ruleP K (eP l q) (eN l q) (eM l q) s f ≠ 0) : runP l q (l.length - q) s f = ([.i (q : Int), .i (ruleP K (eP l q) (eN l q) (eM l q) s f)] :: (runP l (q + 1) (l.length - (q + 1)) (nextS K (eP l q) (eN l q) (eM l q) s f) (nextF K (eN l q) f)).1, (runP l (q + 1) (l.length - (q + 1)) (nextS K (eP l q) (eN l q) (eM l q) s f) (nextF K (eN l q) f)).2) := by
  rw [show l.length - q = (l.length - (q + 1)) + 1 by omega]
  simp only [runP]
  rw [hK, if_neg e]
theorem runP_end {l s f : List (List D)} {q : Nat} (h : ¬ q < l.length) : runP l q (l.length - q) s f = ([], s, f) := by
  rw [show l.length - q = 0 by omega]
  rfl
theorem okF_next {f : List (List D)} (h : okF f) (K n : Int) : okF (nextF K n f) := by
  unfold nextF
  split
  · exact okF_mset h _
  · exact h
theorem ok42_17 (n : Nat) : LoopSim C (n + 1) 42 (loopOf C.P 42 17) (mkL l42_17 G42_17) := by
  refine loop_ofK hC (sp := sp42) (lp := lp42) (sw := sw42) (all42 n) (allw42 n) 0 [] (by kernel_rfl) rfl (fun k hk => by cases hk) (by kernel_rfl) (fun ds => (if (ds.getD 0 default).I = 0 then (ds.getD 1 default).L.length else (ds.getD 2 default).L.length) - (if (ds.getD 0 default).I = 0 then (ds.getD 3 default).I else (ds.getD 4 default).I).toNat) fun ds rr h => ?_
  unfold G42_17 at h
  split at h
  · rename_i j l c i s f
    obtain ⟨hp, h⟩ := need_some h
    rw [yes_iff] at hp
    obtain ⟨hj, h1, hc, hi, hs, hf⟩ := hp
    have hlen := log_len h1
    refine ⟨by rw [fuelC]; simp only [List.getD_cons_zero, List.getD_cons_succ, hj, if_true]; omega, ?_⟩
    rw [roundTK_head (j := j) (n := 0) hj (by decide), show (roundTK C (mkTab sp42 lp42 sw42) 42 (loopOf C.P 42 17) 0 l42_17 [.i 0, l, c, i, s, f]).run = _ from t42_17_0 l c i s f]
    obtain ⟨q, hq⟩ : ∃ q : Nat, i.I = q := ⟨i.I.toNat, by omega⟩
    have x0 : ∀ j : Nat, (List.getD (List.getD l.L j []) 0 default).I = eK l.L j := fun _ => rfl
    have x1 : ∀ j : Nat, (List.getD (List.getD l.L j []) (0 + 1) default).I = eP l.L j := fun _ => rfl
    have x2 : ∀ j : Nat, (List.getD (List.getD l.L j []) (0 + 1 + 1) default).I = eN l.L j := fun _ => rfl
    have x3 : ∀ j : Nat, (List.getD (List.getD l.L j []) (0 + 1 + 1 + 1) default).I = eM l.L j := fun _ => rfl
    simp only [hq, hc, Int.toNat_natCast, x0, x1, x2, x3] at h ⊢
    refine rd_if (fun hlt => ?_) fun hge => ?_
    · have hql : q < l.L.length := by omega
      obtain ⟨g1, g2, g3, g4, -⟩ := log_at h1 hql
      have step : ∀ K : Int, eK l.L q = K → RdOK G42_17 (fun ds => (if (ds.getD 0 default).I = 0 then (ds.getD 1 default).L.length else (ds.getD 2 default).L.length) - (if (ds.getD 0 default).I = 0 then (ds.getD 3 default).I else (ds.getD 4 default).I).toNat) [j, l, c, i, s, f] rr
          (T.need (yes (s.L.length = 120 ∧ (0 ≤ eP l.L q ∧ eP l.L q < 60) ∧ 0 ≤ eN l.L q ∧ okF f.L)) (T.ite (ruleP K (eP l.L q) (eN l.L q) (eM l.L q) s.L f.L != 0)
            (T.leaf (Rd.again [.i 1, .i 1, .l l.L, .i (l.L.length : Int), .i (IntKind.wrap .i64 ((q : Int) + 1)), .l (nextS K (eP l.L q) (eN l.L q) (eM l.L q) s.L f.L), .l [[.i (q : Int), .i (ruleP K (eP l.L q) (eN l.L q) (eM l.L q) s.L f.L)]], .l (nextF K (eN l.L q) f.L)]))
            (T.leaf (Rd.again [.i 0, .l l.L, .i (l.L.length : Int), .i (IntKind.wrap .i64 ((q : Int) + 1)), .l (nextS K (eP l.L q) (eN l.L q) (eM l.L q) s.L f.L), .l (nextF K (eN l.L q) f.L)])))).run := fun K hK => by
        rw [wrap_succ (by omega)]
        refine rd_yes ⟨hs, by omega, by omega, hf⟩ (rd_ite (fun e => ?_) fun e => ?_)
        · rw [runP_bad hql hK (by simpa using e)] at h
          refine rd_again ((need_yes ⟨rfl, ⟨h1, rfl, by simp only [I_i, L_l]; omega, by rw [L_l, len_next]; exact hs, okF_next hf _ _⟩, rfl, by simp only [I_i, L_l, List.length_cons, List.length_nil]; omega⟩).trans ?_) (show (if (1 : Int) = 0 then _ else l.L.length) - (if (1 : Int) = 0 then _ else ((q + 1 : Nat) : Int)).toNat < (if j.I = 0 then l.L.length else _) - (if j.I = 0 then i.I else _).toNat by rw [if_neg (by decide), if_neg (by decide), if_pos hj, if_pos hj]; omega)
          rw [← h]
          simp only [L_l, I_i, Int.toNat_natCast]
          rfl
        · rw [runP_good hql hK (by simpa using e)] at h
          refine rd_again ((need_yes ⟨rfl, h1, rfl, by simp only [I_i, L_l]; omega, by rw [L_l, len_next]; exact hs, okF_next hf _ _⟩).trans ?_) (show (if (0 : Int) = 0 then l.L.length else _) - (if (0 : Int) = 0 then ((q + 1 : Nat) : Int) else _).toNat < (if j.I = 0 then l.L.length else _) - (if j.I = 0 then i.I else _).toNat by rw [if_pos rfl, if_pos rfl, if_pos hj, if_pos hj]; omega)
          rw [← h]
          simp only [L_l, I_i, Int.toNat_natCast]
      exact rd_dec ⟨by omega, by omega⟩ (rd_if (fun e => step 1 e) fun c1 => rd_if (fun e => step 2 e) fun c2 => rd_if (fun e => step 4 e) fun c4 => rd_if (fun e => step 3 e) fun c3 => rd_if (fun e => step 5 e) fun c5 => by omega)
    · rw [runP_end (by omega)] at h
      exact rd_out h
  · rename_i j z l c i s o f
    obtain ⟨hp, h⟩ := need_some h
    rw [yes_iff] at hp
    obtain ⟨hj, ⟨h1, hc, hi, hs, hf⟩, hz, ho⟩ := hp
    have hlen := log_len h1
    refine ⟨by rw [fuelC]; simp only [List.getD_cons_zero, List.getD_cons_succ, hj]; rw [if_neg (by decide), if_neg (by decide)]; omega, ?_⟩
    rw [roundTK_head (j := j) (n := 1) hj (by decide), show (roundTK C (mkTab sp42 lp42 sw42) 42 (loopOf C.P 42 17) 0 l42_17 [.i 1, z, l, c, i, s, o, f]).run = _ from t42_17_1 z l c i s o f]
    obtain ⟨q, hq⟩ : ∃ q : Nat, i.I = q := ⟨i.I.toNat, by omega⟩
    have x0 : ∀ j : Nat, (List.getD (List.getD l.L j []) 0 default).I = eK l.L j := fun _ => rfl
    have x1 : ∀ j : Nat, (List.getD (List.getD l.L j []) (0 + 1) default).I = eP l.L j := fun _ => rfl
    have x2 : ∀ j : Nat, (List.getD (List.getD l.L j []) (0 + 1 + 1) default).I = eN l.L j := fun _ => rfl
    have x3 : ∀ j : Nat, (List.getD (List.getD l.L j []) (0 + 1 + 1 + 1) default).I = eM l.L j := fun _ => rfl
    have w1 : ∀ x : List D, List.take (List.length [x]) [x] = [x] := fun _ => rfl
    simp only [hz, hq, hc, Int.toNat_natCast, x0, x1, x2, x3, List.take_length, bytes82, w1] at h ho ⊢
    refine rd_if (fun hlt => ?_) fun hge => ?_
    · have hql : q < l.L.length := by omega
      obtain ⟨g1, g2, g3, g4, -⟩ := log_at h1 hql
      have step : ∀ K : Int, eK l.L q = K → RdOK G42_17 (fun ds => (if (ds.getD 0 default).I = 0 then (ds.getD 1 default).L.length else (ds.getD 2 default).L.length) - (if (ds.getD 0 default).I = 0 then (ds.getD 3 default).I else (ds.getD 4 default).I).toNat) [j, z, l, c, i, s, o, f] rr
          (T.need (yes (s.L.length = 120 ∧ (0 ≤ eP l.L q ∧ eP l.L q < 60) ∧ 0 ≤ eN l.L q ∧ okF f.L)) (T.ite (ruleP K (eP l.L q) (eN l.L q) (eM l.L q) s.L f.L != 0)
            (T.need (decide (o.L.length ≤ o.L.length ∧ o.L.length + 1 ≤ 2 ^ 62 ∧ (o.L.length + 1) * 16 ≤ 2 ^ 47)) (T.leaf (Rd.again [.i 1, .i ((o.L.length + 1 : Nat) : Int), .l l.L, .i (l.L.length : Int), .i (IntKind.wrap .i64 ((q : Int) + 1)), .l (nextS K (eP l.L q) (eN l.L q) (eM l.L q) s.L f.L), .l (o.L ++ [[.i (q : Int), .i (ruleP K (eP l.L q) (eN l.L q) (eM l.L q) s.L f.L)]]), .l (nextF K (eN l.L q) f.L)])))
            (T.leaf (Rd.again [.i 1, .i (o.L.length : Int), .l l.L, .i (l.L.length : Int), .i (IntKind.wrap .i64 ((q : Int) + 1)), .l (nextS K (eP l.L q) (eN l.L q) (eM l.L q) s.L f.L), .l o.L, .l (nextF K (eN l.L q) f.L)])))).run := fun K hK => by
        rw [wrap_succ (by omega)]
        refine rd_yes ⟨hs, by omega, by omega, hf⟩ (rd_ite (fun e => ?_) fun e => ?_)
        · rw [runP_bad hql hK (by simpa using e)] at h
          refine rd_dec (by omega) (rd_again ((need_yes ⟨rfl, ⟨h1, rfl, by simp only [I_i, L_l]; omega, by rw [L_l, len_next]; exact hs, okF_next hf _ _⟩, by simp only [I_i, L_l, List.length_append, List.length_cons, List.length_nil], by simp only [I_i, L_l, List.length_append, List.length_cons, List.length_nil]; omega⟩).trans ?_) (show (if (1 : Int) = 0 then _ else l.L.length) - (if (1 : Int) = 0 then _ else ((q + 1 : Nat) : Int)).toNat < (if j.I = 0 then _ else l.L.length) - (if j.I = 0 then _ else i.I).toNat by rw [if_neg (by decide), if_neg (by decide), if_neg (by omega), if_neg (by omega)]; omega))
          rw [← h]
          simp only [L_l, I_i, Int.toNat_natCast, List.append_assoc, List.cons_append, List.nil_append]
        · rw [runP_good hql hK (by simpa using e)] at h
          refine rd_again ((need_yes ⟨rfl, ⟨h1, rfl, by simp only [I_i, L_l]; omega, by rw [L_l, len_next]; exact hs, okF_next hf _ _⟩, rfl, by simp only [I_i, L_l]; omega⟩).trans ?_) (show (if (1 : Int) = 0 then _ else l.L.length) - (if (1 : Int) = 0 then _ else ((q + 1 : Nat) : Int)).toNat < (if j.I = 0 then _ else l.L.length) - (if j.I = 0 then _ else i.I).toNat by rw [if_neg (by decide), if_neg (by decide), if_neg (by omega), if_neg (by omega)]; omega)
          rw [← h]
          simp only [L_l, I_i, Int.toNat_natCast]
      exact rd_dec ⟨by omega, by omega⟩ (rd_if (fun e => step 1 e) fun c1 => rd_if (fun e => step 2 e) fun c2 => rd_if (fun e => step 4 e) fun c4 => rd_if (fun e => step 3 e) fun c3 => rd_if (fun e => step 5 e) fun c5 => by omega)
    · rw [runP_end (by omega), List.append_nil] at h
      exact rd_out h
  · cases h
theorem ok42 (n : Nat) : FnOK C (n + 2) 42 (mkF s42 G42) := by
  refine fn_ofS hC (sp := sp42) (lp := lp42) (sw := sw42) (all42 n) (allw42 n) (by kernel_rfl) [4, 11, 17] (by kernel_rfl) (by kernel_rfl) (fun k hk L hL => by
    simp at hk
    rcases hk with rfl | rfl | rfl <;> cases hL
    · exact ok42_4 n
    · exact ok42_11 n
    · exact ok42_17 n) fun ds rr h => ?_
  unfold G42 at h
  split at h
  · rename_i l
    refine (t42 l).trans ?_
    have lA : ∀ X : List (List D), (rowA X).length = 60 := fun X => by unfold rowA; rw [List.length_map, List.length_range]
    simp only [Int.toNat_zero, Nat.sub_zero, Int.toNat_natCast, lA]
    refine go_if (fun c => ?_) fun c => go_yes ⟨by trivial, by omega, by trivial, by omega, by omega⟩ (go_ite (fun c2 => ?_) fun c2 => ?_)
    · rw [run_ite, if_neg (by unfold logOk; rw [decide_eq_false (by omega)]; simp)] at h
      exact h
    · have hl : logOk l.L = true := by
        unfold logOk
        rw [decide_eq_true (by omega), c2]
        rfl
      rw [run_ite, if_pos hl] at h
      have e0 : List.replicate 120 [D.i (0 : Int)] = part 60 0 ++ part 60 0 := by
        rw [part_0, List.replicate_append_replicate]
      refine go_yes ⟨by omega, e0⟩ (go_yes ⟨by trivial, hl, by trivial, by omega, by unfold minus; rw [List.length_replicate], fun c hc => by cases hc⟩ (go_ite (fun c3 => go_yes (by decide) ?_) fun c3 => go_yes (by decide) ?_))
      · rw [run_ite, if_pos (show (faultsP l.L).isEmpty = true from c3)] at h
        exact h
      · rw [run_ite, if_neg (show ¬ (faultsP l.L).isEmpty = true by unfold faultsP; rw [c3]; decide)] at h
        exact h
    · rw [run_ite, if_neg (by unfold logOk; rw [c2, Bool.and_false]; decide)] at h
      exact h
  · cases h
theorem known0 : callA C 12 Unit none 16 [] [] () = some (.bool true, [], ()) := by kernel_rfl
theorem ok16 : FnOK C 12 16 (mkF s16 G16) := by
  intro args v hb h avs hv
  unfold mkF at h
  split at h
  · rename_i ds hds
    have ha : args = [] := by
      cases args with
      | nil => rfl
      | cons x y => simp [s16, fitsVs] at hds
    subst ha
    simp only [VRL] at hv
    subst hv
    simp only [s16, fitsVs, Option.some.injEq] at hds
    subst hds
    simp only [G16, T.run_map, run_leaf, Option.map_some, Option.some.injEq] at h
    obtain ⟨rfl, rfl⟩ := Prod.mk.inj h
    exact ⟨_, _, known0, rfl, rfl, fun i => by cases i <;> exact trivial⟩
  · cases h
end Go.Proofs.Ytlofnkkokcihnaa
