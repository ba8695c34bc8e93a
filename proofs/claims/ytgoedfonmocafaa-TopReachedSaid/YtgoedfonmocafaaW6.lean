/-
 What the claim top_reached rests on, part 6.
-/
import Derived.Test.YtgoedfonmocafaaW5
import Derived.Test.YtgoedfonmocafaaProg
namespace Go.Proofs.Ytgoedfonmocafaa
open Go.Lite
def annL : List (Nat × Nat × List Nat) :=
 [(3, 5, [2, 3, 4, 5, 6, 7, 8, 15, 16]),
  (3, 13, [3, 4, 5, 6, 7, 8, 15, 17, 18]),
  (3, 31, [3, 5, 6, 7, 8, 15, 17, 23, 25, 26]),
  (4, 5, [2, 3, 4, 5, 6, 7, 13, 14]),
  (5, 6, [1, 2, 3, 4, 5, 6, 13, 15]),
  (5, 24, [2, 3, 4, 5, 28, 30, 31]),
  (6, 10, [2, 3, 4, 7, 9, 10, 11, 12]),
  (6, 26, [2, 3, 4, 7, 9, 11, 17, 19, 21]),
  (7, 4, [1, 2, 3, 4, 5, 6, 13]),
  (7, 14, [1, 2, 3, 4, 5, 6, 14, 16]),
  (7, 28, [2, 3, 4, 5, 6, 14, 17, 18, 19, 23]),
  (7, 35, [2, 3, 4, 5, 6, 14, 17, 18, 19, 23, 24, 25]),
  (7, 42, [2, 3, 5, 19, 29, 30]),
  (9, 4, [1, 3]),
  (9, 10, [1, 5]),
  (11, 3, [1, 3, 4]),
  (13, 4, [3, 9]),
  (14, 8, [0, 1, 2, 3, 10, 11, 12, 13, 34, 35, 36]),
  (14, 15, [0, 1, 2, 3, 10, 11, 16]),
  (14, 21, [0, 1, 2, 3, 17, 18, 81, 82, 83]),
  (16, 5, [1, 3, 4]),
  (18, 11, [3, 4, 5, 6, 7, 10, 42]),
  (18, 16, [3, 4, 5, 6, 10, 68, 69, 70]),
  (18, 23, [4, 5, 6, 10, 92, 93, 94]),
  (19, 3, [1, 3, 4]),
  (20, 10, [2, 5, 6, 41, 42]),
  (20, 15, [2, 5, 6, 60, 61]),
  (20, 20, [2, 5, 6, 80, 81]),
  (22, 3, [1, 2, 3, 7, 8]),
  (24, 4, [1, 3]),
  (26, 7, [1, 2, 3, 5, 16]),
  (27, 4, [0, 5]),
  (27, 9, [0, 5, 6]),
  (28, 6, [0, 1, 6, 7, 22, 23]),
  (29, 5, [0, 1, 2, 9, 23, 24, 25]),
  (31, 4, [0, 1, 2, 3, 4, 26, 27, 28]),
  (32, 4, [1, 3]),
  (35, 5, [2, 3, 5, 58, 59, 60]),
  (36, 3, [2, 3, 4, 5, 8, 9, 10]),
  (37, 8, [3, 4, 11, 12, 13]),
  (37, 11, [3, 4, 11, 12, 13, 14]),
  (37, 14, [3, 4, 11, 12, 13, 14, 69, 70, 71]),
  (38, 4, [1, 19, 20, 21]),
  (38, 10, [1, 5, 19, 20, 21, 61, 62, 63]),
  (39, 4, [1, 3]),
  (39, 10, [1, 4, 5]),
  (39, 16, [1, 4, 7]),
  (42, 4, [0, 1, 5]),
  (43, 8, [4, 5, 6, 8, 9, 32]),
  (48, 3, [0, 1, 4, 11, 12, 17, 18, 19]),
  (49, 4, [0, 1, 5]),
  (49, 9, [0, 1, 5, 6]),
  (51, 5, [1, 3, 28, 29, 30]),
  (51, 14, [1, 3, 45, 46, 47]),
  (51, 20, [1, 3, 81, 82, 83]),
  (52, 4, [3, 4, 11, 12, 13]),
  (59, 1, [0, 2, 3]),
  (60, 1, [0, 2, 3]),
  (61, 1, [0, 2, 3]),
  (65, 3, [2, 3, 9, 10, 13, 14, 15]),
  (66, 4, [1, 3]),
  (66, 12, [1, 3, 4, 5]),
  (68, 4, [0, 1, 5]),
  (69, 5, [1, 3, 24, 25, 26]),
  (71, 4, [2, 3, 6, 7, 8, 24, 25, 26]),
  (71, 9, [2, 6, 7, 8, 45, 46]),
  (72, 3, [2, 3, 6, 7, 15, 16, 17]),
  (73, 2, [0, 7, 8, 9]),
  (73, 7, [0, 3, 4, 7, 8, 9, 25, 26, 27]),
  (75, 2, [0, 1, 9, 10, 11]),
  (76, 3, [0, 3, 4]),
  (77, 3, [1, 2, 9, 10, 15, 16, 17]),
  (77, 9, [1, 2, 9, 10, 12, 15, 16, 17, 30, 31, 32]),
  (78, 3, [1, 4, 5, 12, 13, 14]),
  (82, 4, [3, 5]),
  (84, 3, [7, 17, 18, 19]),
  (86, 3, [2, 3, 4, 5, 9, 19, 20]),
  (86, 9, [2, 4, 9, 33, 34]),
  (86, 12, [2, 4, 9, 11, 33, 34, 40, 41]),
  (86, 17, [2, 4, 9, 11, 33, 34, 49, 50, 51]),
  (87, 2, [1, 2, 8, 9, 10]),
  (90, 4, [1, 33, 34, 35]),
  (98, 1, [0, 1, 9, 10, 11]),
  (100, 2, [0, 5, 6, 7]),
  (108, 3, [5, 12, 13]),
  (109, 7, [1, 6, 7, 29, 30]),
  (109, 12, [1, 6, 7, 8, 9]),
  (111, 2, [0, 1, 3, 12, 13, 14]),
  (111, 7, [0, 1, 3]),
  (111, 9, [0, 1, 3, 6]),
  (113, 3, [1, 5, 15, 16, 17]),
  (114, 3, [0, 1, 6, 18, 19]),
  (114, 9, [0, 1, 6, 8, 30, 31]),
  (114, 12, [0, 1, 6, 8, 30, 31, 36, 37, 38]),
  (119, 3, [2, 4, 6, 7, 15, 16]),
  (119, 9, [2, 6, 7, 9]),
  (119, 14, [2, 6, 7, 9, 51]),
  (121, 1, [0, 2, 3, 8, 9, 10]),
  (124, 2, [0, 4, 16, 17, 18]),
  (124, 6, [0, 4, 6, 7, 16, 17, 18, 22, 23]),
  (124, 11, [0, 4, 7, 16, 17, 18, 34, 35]),
  (127, 2, [0, 1, 7, 8]),
  (128, 7, [2, 9, 10]),
  (129, 2, [0, 1, 7, 8]),
  (130, 2, [0, 1, 7, 8]),
  (131, 2, [0, 1, 7, 8]),
  (136, 1, [0, 2, 3]),
  (142, 4, [2, 3, 6]),
  (143, 2, [0, 1, 7, 8]),
  (144, 2, [0, 1, 7, 8]),
  (145, 0, [0, 1]),
  (174, 2, [0, 1, 2, 7])]
def annXL : List (Nat × Nat × Option Nat × List Nat) :=
 [(3, 5, some 0, [3, 4, 5, 6, 7, 8, 15]),
  (3, 5, none, [14]),
  (3, 13, some 2, [3, 5, 6, 7, 8, 15, 17]),
  (3, 13, none, [14]),
  (3, 31, some 4, []),
  (3, 31, none, [14]),
  (4, 5, some 0, [3, 4, 5, 6, 7, 13]),
  (4, 5, none, [12]),
  (5, 6, some 0, [2, 3, 4, 5]),
  (5, 6, none, [12]),
  (5, 24, some 2, [2, 3, 4, 28]),
  (5, 24, none, [12]),
  (6, 10, some 0, [2, 3, 4, 7, 9, 10]),
  (6, 10, none, [6]),
  (6, 26, some 2, []),
  (6, 26, none, [6]),
  (7, 4, some 0, [1, 2, 3, 4, 5, 6]),
  (7, 4, none, [12]),
  (7, 14, some 2, [1, 2, 3, 4, 5, 6, 14]),
  (7, 14, none, [12]),
  (7, 28, some 4, [2, 3, 4, 5, 19]),
  (7, 28, none, [12]),
  (7, 35, some 6, [2, 3, 4, 5, 6, 14, 17, 18, 19, 23]),
  (7, 35, none, [12]),
  (7, 42, some 8, [3, 5, 19, 29]),
  (7, 42, none, [12]),
  (9, 4, some 0, [1]),
  (9, 4, none, [2]),
  (9, 10, some 2, []),
  (9, 10, none, [2]),
  (11, 3, some 0, [3]),
  (11, 3, none, [2]),
  (13, 4, some 0, []),
  (13, 4, none, [8]),
  (14, 8, some 0, [0, 1, 2, 3, 10, 11]),
  (14, 8, none, [8, 9]),
  (14, 15, some 2, [0, 1, 2, 3, 10, 11]),
  (14, 15, none, [8, 9]),
  (14, 21, some 4, [0, 1, 2, 3, 17]),
  (14, 21, none, [8, 9]),
  (16, 5, some 0, []),
  (16, 5, none, [2]),
  (18, 16, some 2, [3, 4, 5, 6, 10]),
  (18, 16, none, [6, 7]),
  (18, 23, some 4, [6, 10]),
  (18, 23, none, [6, 7]),
  (19, 3, some 0, [3]),
  (19, 3, none, [2]),
  (20, 10, some 0, [2, 5, 6]),
  (20, 10, none, [2, 3]),
  (20, 15, some 2, [2, 5, 6]),
  (20, 15, none, [2, 3]),
  (20, 20, some 4, [2, 6]),
  (20, 20, none, [2, 3]),
  (22, 3, some 0, [7]),
  (22, 3, none, [6]),
  (24, 4, some 0, [1]),
  (24, 4, none, [2]),
  (27, 4, some 0, []),
  (27, 4, none, [4]),
  (27, 9, some 2, [0, 5]),
  (27, 9, none, [4]),
  (28, 6, some 0, [7]),
  (28, 6, none, [4, 5]),
  (29, 5, some 0, [0, 1, 9]),
  (29, 5, none, [6, 7, 8]),
  (31, 4, some 0, [0, 1, 2, 3, 4]),
  (31, 4, none, [10]),
  (32, 4, some 0, []),
  (32, 4, none, [2]),
  (35, 5, some 0, []),
  (35, 5, none, [4]),
  (36, 3, some 0, [8, 9]),
  (36, 3, none, [8]),
  (37, 8, some 0, [3, 4, 11, 12, 13]),
  (37, 8, none, [8, 9, 10]),
  (37, 11, some 2, [11, 14]),
  (37, 11, none, [8, 9, 10]),
  (37, 14, some 3, [3, 4, 11, 12, 13, 14]),
  (37, 14, some 4, [3, 4, 11, 12, 13, 14]),
  (37, 14, none, [8, 9, 10]),
  (38, 4, some 0, []),
  (38, 4, none, [2]),
  (38, 10, some 2, [1, 19, 20, 21]),
  (38, 10, none, [2]),
  (39, 4, some 0, [1]),
  (39, 4, none, [2]),
  (39, 10, some 2, [1, 4]),
  (39, 10, none, [2]),
  (39, 16, some 4, [4]),
  (39, 16, none, [2]),
  (42, 4, some 0, []),
  (42, 4, none, [4]),
  (48, 3, some 0, []),
  (48, 3, none, [10]),
  (49, 4, some 0, []),
  (49, 4, none, [4]),
  (49, 9, some 2, [0, 1, 5]),
  (49, 9, none, [4]),
  (51, 5, some 0, [1, 3]),
  (51, 5, none, [2]),
  (51, 14, some 2, [1, 3]),
  (51, 14, none, [2]),
  (51, 20, some 4, []),
  (51, 20, none, [2]),
  (52, 4, some 0, [3, 4]),
  (52, 4, none, [2]),
  (59, 1, some 0, []),
  (59, 1, none, []),
  (60, 1, some 0, []),
  (60, 1, none, []),
  (61, 1, some 0, []),
  (61, 1, none, []),
  (65, 3, some 0, [2, 9, 10]),
  (65, 3, none, [6, 7, 8]),
  (66, 4, some 0, []),
  (66, 4, none, [2]),
  (66, 12, some 2, [1, 3]),
  (66, 12, none, [2]),
  (68, 4, some 0, []),
  (68, 4, none, [4]),
  (69, 5, some 0, []),
  (69, 5, none, [2]),
  (71, 4, some 0, [2, 6, 7, 8]),
  (71, 4, none, [6, 7]),
  (71, 4, some 1000000, [6, 7]),
  (71, 9, some 2, [2, 6, 7, 8]),
  (71, 9, none, [6, 7]),
  (71, 9, some 1000000, [6, 7]),
  (72, 3, some 0, [6, 7]),
  (72, 3, none, [6]),
  (73, 2, some 0, [0]),
  (73, 2, none, [2]),
  (73, 7, some 2, [0, 7, 8, 9]),
  (73, 7, none, [2]),
  (75, 2, some 0, [0, 1]),
  (75, 2, none, [4]),
  (76, 3, some 0, [3]),
  (76, 3, none, [2]),
  (77, 3, some 0, [1, 9, 10]),
  (77, 3, none, [6, 7, 8]),
  (77, 9, some 2, [1, 2, 9, 10, 12, 15, 16, 17]),
  (77, 9, none, [6, 7, 8]),
  (78, 3, some 0, [4, 5]),
  (78, 3, none, [4]),
  (82, 4, some 0, []),
  (82, 4, none, [4]),
  (84, 3, some 0, [7]),
  (84, 3, none, [6]),
  (86, 3, some 0, [2, 3, 4, 5, 9]),
  (86, 3, none, [8]),
  (86, 9, some 2, [2, 9]),
  (86, 9, none, [8]),
  (86, 12, some 4, [2, 4, 9, 11, 33, 34]),
  (86, 12, none, [8]),
  (86, 17, some 6, [2, 4, 11, 33, 34]),
  (86, 17, none, [8]),
  (87, 2, some 0, [1]),
  (87, 2, none, [4]),
  (90, 4, some 0, [1]),
  (90, 4, none, [2]),
  (98, 1, some 0, []),
  (98, 1, none, []),
  (100, 2, some 0, [0]),
  (100, 2, none, [2]),
  (108, 3, some 0, [5]),
  (108, 3, none, [4]),
  (109, 7, some 0, [1, 6, 7]),
  (109, 7, none, [2, 3]),
  (109, 12, some 2, [8]),
  (109, 12, none, [2, 3]),
  (111, 2, some 0, [0, 1, 3]),
  (111, 2, none, []),
  (111, 7, none, []),
  (111, 9, some 4, [0, 1, 3, 6]),
  (111, 9, none, []),
  (113, 3, some 0, [5]),
  (113, 3, none, [4]),
  (114, 3, some 0, [0, 1, 6]),
  (114, 3, none, [4, 5]),
  (114, 9, some 2, [6, 8]),
  (114, 9, none, [4, 5]),
  (114, 12, some 4, [0, 1, 6, 8, 30, 31]),
  (114, 12, none, [4, 5]),
  (119, 3, some 0, [2, 4, 6, 7]),
  (119, 3, none, [6]),
  (119, 9, some 2, [7]),
  (119, 9, none, [6]),
  (121, 1, some 0, []),
  (121, 1, none, []),
  (124, 2, some 0, []),
  (124, 2, none, []),
  (124, 6, some 2, [0, 4, 6, 7, 16, 17, 18]),
  (124, 6, none, []),
  (124, 11, some 4, [0, 4, 16, 17, 18]),
  (124, 11, none, []),
  (127, 2, some 0, []),
  (127, 2, none, [4]),
  (128, 7, some 0, [9]),
  (128, 7, none, [8]),
  (129, 2, some 0, []),
  (129, 2, none, [4]),
  (130, 2, some 0, []),
  (130, 2, none, [4]),
  (131, 2, some 0, []),
  (131, 2, none, [4]),
  (136, 1, some 0, []),
  (136, 1, none, []),
  (142, 4, some 0, [2, 6]),
  (142, 4, none, [4, 5]),
  (143, 2, some 0, []),
  (143, 2, none, [4]),
  (144, 2, some 0, []),
  (144, 2, none, [4]),
  (145, 0, some 0, []),
  (145, 0, none, []),
  (174, 2, some 0, [1, 7]),
  (174, 2, none, [6])]
def annOf (f : FuncId) (k : Nat) : Option (List Nat) := (annL.find? fun x => x.1 == f && x.2.1 == k).map (·.2.2)
def annXOf (f : FuncId) (k : Nat) (e : Option Nat) : Option (List Nat) := (annXL.find? fun x => x.1 == f && x.2.1 == k && x.2.2.1 == e).map (·.2.2.2)
def wrL : List (Nat × List Bool) := [(52, [true]), (54, [true]), (59, [true]), (60, [true]), (61, [true]), (91, [true, true]), (136, [true]), (70, [true]), (72, [false, false, true]), (114, [false, true]), (113, [true, true]), (164, [true]), (120, [true, true, true]), (141, [true, false]), (145, [true, false]), (170, [true, false]), (171, [true, false, false]), (172, [true]), (173, [true]), (174, [true, false, false]), (176, [true])]
def wrOf (f : FuncId) : List Bool := ((wrL.find? fun x => x.1 == f).map (·.2)).getD []
def fzoOf (o : Oper) : List Nat := match o.op with
 | .buildSlice t _ ps => if t = 79 then ps.toList.filterMap fun p => match p.2 with
   | .tmp t => some t
   | _ => none
   else []
 | _ => []
noncomputable def C : Cfg := { P := Try.prog, ty := tyOf Try.prog, wr := wrOf, ann := annOf, annX := annXOf, fuel := 2 ^ 64, frz := fun f => [18, 20, 22, 28, 33, 37, 43].elem f, give := fun f k => f == 26 && k == 7, ext := fun _ => none, alts := fun t => if t = 211 then [239, 241, 244] else [], fzo := fzoOf }
theorem own : ownKnob Try.prog.godebug = none := by kernel_rfl
theorem mixed : C.P.follows .mixedOrders = true := by kernel_rfl
def fnOk (fn : Func) : Bool := match fn.body with
 | none => true
 | some c => fn.name != "runtime.NumGoroutine" && regsOk c
theorem fnsOk : Try.prog.funcs.toList.all fnOk = true := by kernel_rfl
theorem fn_ok {f : FuncId} {fn : Func} {c : Code} (h : Try.prog.funcs[f]? = some fn) (hb : fn.body = some c) : fn.name ≠ "runtime.NumGoroutine" ∧ regsOk c = true := by
 have hm : fn ∈ Try.prog.funcs := Array.mem_of_getElem? h
 have := List.all_eq_true.1 fnsOk fn (by simpa using hm)
 unfold fnOk at this
 rw [hb] at this
 simpa using this
theorem callsOk (n : Nat) : CallOK C.P (callA C n) := by
 refine calls_ok (C := C) ?_ ?_ mixed ?_ ?_ n
 ·intro t T h
  dsimp only [C] at h ⊢
  exact h
 ·intro f E h
  delta C at h
  cases h
 ·intro f fn h hb
  obtain ⟨c, hc⟩ := Option.isSome_iff_exists.1 hb
  exact (fn_ok h hc).1
 ·exact fun f fn c h hb => (fn_ok h hb).2
def s64 : Sig := ⟨[.k (.int .i64), .k (.int .i64), .k (.int .i64)], [(.k .bool, [])]⟩
def s55 : Sig := ⟨[.k (.int .i64), .k (.int .i64), .k (.int .i64)], [(.k .bool, [])]⟩
def s88 : Sig := ⟨[.k (.int .i64), .k (.int .i64), .k (.int .i64)], [(.k .bool, [])]⟩
def s97 : Sig := ⟨[.agg [.k (.int .i64), .k (.int .i64), .k (.int .i64), .k (.int .i64), .k (.int .i64)]], [(.k .bool, [])]⟩
def s89 : Sig := ⟨[.agg [.k (.int .i64), .k (.int .i64), .k (.int .i64), .k (.int .i64), .k (.int .i64)]], [(.k .bool, [])]⟩
def s51 : Sig := ⟨[.agg [.k (.ro [.int .i64, .int .i64, .int .i64, .int .i64, .int .i64]), .k (.ro [.int .i64, .int .i64]), .k (.ro [.int .i64, .int .i64, .int .i64])]], [(.k (.int .i64), [])]⟩
def l51_5 : LSig := mkLS [1, 3, 28, 29, 30] [(124, [(1, .ptr 0 3 0 0), (3, .k (.int .i64)), (28, .k (.ro [.int .i64, .int .i64, .int .i64, .int .i64, .int .i64])), (29, .k (.int .i64)), (30, .k (.int .i64))], [.box [.k (.ro [.int .i64, .int .i64, .int .i64, .int .i64, .int .i64]), .k (.ro [.int .i64, .int .i64]), .k (.ro [.int .i64, .int .i64, .int .i64])]])] [(.ret, [2], [(124, [(2, .k (.int .i64))], [])]), (.exit 0, [1, 3], [(124, [(1, .ptr 0 3 0 0), (3, .k (.int .i64))], [.box [.k (.ro [.int .i64, .int .i64, .int .i64, .int .i64, .int .i64]), .k (.ro [.int .i64, .int .i64]), .k (.ro [.int .i64, .int .i64, .int .i64])]])])]
def l51_14 : LSig := mkLS [1, 3, 45, 46, 47] [(124, [(1, .ptr 0 3 0 0), (3, .k (.int .i64)), (45, .k (.ro [.int .i64, .int .i64])), (46, .k (.int .i64)), (47, .k (.int .i64))], [.box [.k (.ro [.int .i64, .int .i64, .int .i64, .int .i64, .int .i64]), .k (.ro [.int .i64, .int .i64]), .k (.ro [.int .i64, .int .i64, .int .i64])]])] [(.ret, [2], [(124, [(2, .k (.int .i64))], [])]), (.exit 2, [1, 3], [(124, [(1, .ptr 0 3 0 0), (3, .k (.int .i64))], [.box [.k (.ro [.int .i64, .int .i64, .int .i64, .int .i64, .int .i64]), .k (.ro [.int .i64, .int .i64]), .k (.ro [.int .i64, .int .i64, .int .i64])]])])]
def l51_20 : LSig := mkLS [1, 3, 81, 82, 83] [(124, [(1, .ptr 0 3 0 0), (3, .k (.int .i64)), (81, .k (.ro [.int .i64, .int .i64, .int .i64])), (82, .k (.int .i64)), (83, .k (.int .i64))], [.box [.k (.ro [.int .i64, .int .i64, .int .i64, .int .i64, .int .i64]), .k (.ro [.int .i64, .int .i64]), .k (.ro [.int .i64, .int .i64, .int .i64])]])] [(.ret, [2], [(124, [(2, .k (.int .i64))], [])]), (.exit 4, [], [(124, [], [])])]
def s19 : Sig := ⟨[.agg [.k (.ro [.int .i64, .int .i64, .int .i64, .int .i64, .int .i64]), .k (.ro [.int .i64, .int .i64]), .k (.ro [.int .i64, .int .i64, .int .i64])]], [(.k (.int .i64), [])]⟩
def l19_3 : LSig := mkLS [1, 3, 4] [(21, [(1, .ptr 0 3 0 0), (3, .k (.int .i64)), (4, .k (.int .i64))], [.box [.k (.ro [.int .i64, .int .i64, .int .i64, .int .i64, .int .i64]), .k (.ro [.int .i64, .int .i64]), .k (.ro [.int .i64, .int .i64, .int .i64])]])] [(.exit 0, [3], [(21, [(3, .k (.int .i64))], [])])]
def s39 : Sig := ⟨[.agg [.k (.ro [.int .i64, .int .i64, .int .i64, .int .i64, .int .i64]), .k (.ro [.int .i64, .int .i64]), .k (.ro [.int .i64, .int .i64, .int .i64])]], [(.k .bool, [])]⟩
def l39_4 : LSig := mkLS [1, 3] [(130, [(1, .ptr 0 3 0 0), (3, .k (.int .i64))], [.box [.k (.ro [.int .i64, .int .i64, .int .i64, .int .i64, .int .i64]), .k (.ro [.int .i64, .int .i64]), .k (.ro [.int .i64, .int .i64, .int .i64])]])] [(.ret, [2], [(130, [(2, .k .bool)], [])]), (.exit 0, [1], [(130, [(1, .ptr 0 3 0 0)], [.box [.k (.ro [.int .i64, .int .i64, .int .i64, .int .i64, .int .i64]), .k (.ro [.int .i64, .int .i64]), .k (.ro [.int .i64, .int .i64, .int .i64])]])])]
def l39_10 : LSig := mkLS [1, 4, 5] [(130, [(1, .ptr 0 3 0 0), (4, .k (.int .i64)), (5, .k (.int .i64))], [.box [.k (.ro [.int .i64, .int .i64, .int .i64, .int .i64, .int .i64]), .k (.ro [.int .i64, .int .i64]), .k (.ro [.int .i64, .int .i64, .int .i64])]])] [(.ret, [2], [(130, [(2, .k .bool)], [])]), (.exit 2, [1, 4], [(130, [(1, .ptr 0 3 0 0), (4, .k (.int .i64))], [.box [.k (.ro [.int .i64, .int .i64, .int .i64, .int .i64, .int .i64]), .k (.ro [.int .i64, .int .i64]), .k (.ro [.int .i64, .int .i64, .int .i64])]])])]
def l39_16 : LSig := mkLS [1, 4, 7] [(130, [(1, .ptr 0 3 0 0), (4, .k (.int .i64)), (7, .k (.int .i64))], [.box [.k (.ro [.int .i64, .int .i64, .int .i64, .int .i64, .int .i64]), .k (.ro [.int .i64, .int .i64]), .k (.ro [.int .i64, .int .i64, .int .i64])]])] [(.ret, [2], [(130, [(2, .k .bool)], [])]), (.exit 4, [4], [(130, [(4, .k (.int .i64))], [])])]
def s52 : SigW := ⟨[.agg [.k (.ro [.int .i64, .int .i64, .int .i64, .int .i64, .int .i64]), .k (.ro [.int .i64, .int .i64]), .k (.ro [.int .i64, .int .i64, .int .i64])]], [], [(.ptr 0 4 0 0, [.box [.k (.ro [.int .i64, .int .i64, .int .i64, .int .i64, .int .i64]), .k (.ro [.int .i64, .int .i64]), .k (.ro [.int .i64, .int .i64, .int .i64]), .sl 1 1], .row [.int .i64]])]⟩
def l52_4 : LSig := mkLS [3, 4, 11, 12, 13] [(43, [(3, .ptr 0 4 0 0), (4, .k (.int .i64)), (11, .k (.ro [.int .i64, .int .i64, .int .i64, .int .i64, .int .i64])), (12, .k (.int .i64)), (13, .k (.int .i64))], [.box [.k (.ro [.int .i64, .int .i64, .int .i64, .int .i64, .int .i64]), .k (.ro [.int .i64, .int .i64]), .k (.ro [.int .i64, .int .i64, .int .i64]), .nils]]), (43, [(3, .ptr 0 4 0 0), (4, .k (.int .i64)), (11, .k (.ro [.int .i64, .int .i64, .int .i64, .int .i64, .int .i64])), (12, .k (.int .i64)), (13, .k (.int .i64))], [.box [.k (.ro [.int .i64, .int .i64, .int .i64, .int .i64, .int .i64]), .k (.ro [.int .i64, .int .i64]), .k (.ro [.int .i64, .int .i64, .int .i64]), .sl 1 1], .row [.int .i64]])] [(.exit 0, [3, 4], [(43, [(3, .ptr 0 4 0 0), (4, .k (.int .i64))], [.box [.k (.ro [.int .i64, .int .i64, .int .i64, .int .i64, .int .i64]), .k (.ro [.int .i64, .int .i64]), .k (.ro [.int .i64, .int .i64, .int .i64]), .nils]]), (43, [(3, .ptr 0 4 0 0), (4, .k (.int .i64))], [.box [.k (.ro [.int .i64, .int .i64, .int .i64, .int .i64, .int .i64]), .k (.ro [.int .i64, .int .i64]), .k (.ro [.int .i64, .int .i64, .int .i64]), .sl 1 1], .row [.int .i64]])])]
def s53 : Sig := ⟨[.eptr [.k (.ro [.int .i64, .int .i64, .int .i64, .int .i64, .int .i64]), .k (.ro [.int .i64, .int .i64]), .k (.ro [.int .i64, .int .i64, .int .i64]), .k (.ro [.int .i64])]], [(.k (.int .i64), [])]⟩
noncomputable section
def pieceP (a b c d e : Int) : Bool := within a 1 5000 && within b (-1) 1 && within d 15 300 && within e 1 9 && (if b = 0 then decide (c = 0) else within c 5 2000)
def pieceAt (l : List (List D)) (k : Nat) : Bool := pieceP (ix (l.getD k []) 0) (ix (l.getD k []) 1) (ix (l.getD k []) 2) (ix (l.getD k []) 3) (ix (l.getD k []) 4)
def lenFrom (l : List (List D)) : Nat → Nat → Int
 | _, 0 => 0
 | i, k + 1 => ix (l.getD i []) 0 + lenFrom l (i + 1) k
def lenR (l : List (List D)) : Int := lenFrom l 0 l.length
def riseAt (l : List (List D)) (k : Nat) : Bool := decide (k = 0) || decide (ix (l.getD (k - 1) []) 0 < ix (l.getD k []) 0)
def crestAt (n : Int) (l : List (List D)) (k : Nat) : Bool := within (ix (l.getD k []) 0) 0 n && within (ix (l.getD k []) 1) 1 3 && riseAt l k
def juncAt (n : Int) (l : List (List D)) (k : Nat) : Bool := within (ix (l.getD k []) 0) 0 n && within (ix (l.getD k []) 1) 2 6 && within (ix (l.getD k []) 2) 1 (ix (l.getD k []) 1) && riseAt l k
def sizesOk (p c j : List (List D)) : Bool := within p.length 1 2000 && decide (c.length ≤ 1000) && decide (j.length ≤ 200)
def roadOk (p c j : List (List D)) : Bool := sizesOk p c j && allFrom (pieceAt p) 0 p.length && decide (lenR p ≤ 100000) && allFrom (crestAt (lenR p) c) 0 c.length && allFrom (juncAt (lenR p) j) 0 j.length
def G55 (ds : List D) : T (List D) := match ds with
 | [a, b, c] => .leaf [.b (within a.I b.I c.I)]
 | _ => .fail
def G88 (ds : List D) : T (List D) := match ds with
 | [a, b, c] => .leaf [.b (within a.I b.I c.I)]
 | _ => .fail
def G97 (ds : List D) : T (List D) := match ds with
 | [a, b, c, d, e] => .leaf [.b (pieceP a.I b.I c.I d.I e.I)]
 | _ => .fail
def G89 (ds : List D) : T (List D) := match ds with
 | [a, b, c, d, e] => .leaf [.b (pieceP a.I b.I c.I d.I e.I)]
 | _ => .fail
def G51 (ds : List D) : T (List D) := match ds with
 | [p, c, j] => .ite (roadOk p.L c.L j.L) (.leaf [.i 0]) (.leaf [.i 2])
 | _ => .fail
def G51_5 (ds : List D) : T (Ex × List D) := match ds with
 | [n, q, m, i, p, c, j] => .need (yes (q.L = p.L ∧ m.I = p.L.length ∧ 0 ≤ i.I ∧ i.I ≤ m.I ∧ m.I ≤ 2000 ∧ 0 ≤ n.I ∧ n.I ≤ 5000 * i.I))
     (.ite (allFrom (pieceAt p.L) i.I.toNat (p.L.length - i.I.toNat)) (.leaf (.exit 0, [.i (n.I + lenFrom p.L i.I.toNat (p.L.length - i.I.toNat)), .l p.L, .l c.L, .l j.L])) (.leaf (.ret, [.i 2])))
 | _ => .fail
def G51_14 (ds : List D) : T (Ex × List D) := match ds with
 | [n, q, m, i, p, c, j] => .need (yes (q.L = c.L ∧ m.I = c.L.length ∧ 0 ≤ i.I ∧ i.I ≤ m.I ∧ m.I ≤ 1000))
     (.ite (allFrom (crestAt n.I c.L) i.I.toNat (c.L.length - i.I.toNat)) (.leaf (.exit 2, [.i n.I, .l p.L, .l c.L, .l j.L])) (.leaf (.ret, [.i 2])))
 | _ => .fail
def G51_20 (ds : List D) : T (Ex × List D) := match ds with
 | [n, q, m, i, _, _, j] => .need (yes (q.L = j.L ∧ m.I = j.L.length ∧ 0 ≤ i.I ∧ i.I ≤ m.I ∧ m.I ≤ 200))
     (.ite (allFrom (juncAt n.I j.L) i.I.toNat (j.L.length - i.I.toNat)) (.leaf (.exit 4, [])) (.leaf (.ret, [.i 2])))
 | _ => .fail
def G19 (ds : List D) : T (List D) := match ds with
 | [p, _, _] => .need (yes (p.L.length ≤ 2000 ∧ allFrom (pieceAt p.L) 0 p.L.length = true)) (.leaf [.i (lenR p.L)])
 | _ => .fail
def G19_3 (ds : List D) : T (Ex × List D) := match ds with
 | [n, i, p, _, _] => .need (yes (p.L.length ≤ 2000 ∧ allFrom (pieceAt p.L) 0 p.L.length = true ∧ 0 ≤ i.I ∧ i.I ≤ p.L.length ∧ 0 ≤ n.I ∧ n.I ≤ 5000 * i.I))
     (.leaf (.exit 0, [.i (n.I + lenFrom p.L i.I.toNat (p.L.length - i.I.toNat))]))
 | _ => .fail
def G39 (ds : List D) : T (List D) := match ds with
 | [p, c, j] => .leaf [.b (roadOk p.L c.L j.L)]
 | _ => .fail
def G39_4 (ds : List D) : T (Ex × List D) := match ds with
 | [i, p, c, j] => .need (yes (p.L.length ≤ 2000 ∧ 0 ≤ i.I ∧ i.I ≤ p.L.length))
     (.ite (allFrom (pieceAt p.L) i.I.toNat (p.L.length - i.I.toNat)) (.leaf (.exit 0, [.l p.L, .l c.L, .l j.L])) (.leaf (.ret, [.b false])))
 | _ => .fail
def G39_10 (ds : List D) : T (Ex × List D) := match ds with
 | [n, i, p, c, j] => .need (yes (c.L.length ≤ 1000 ∧ 0 ≤ i.I ∧ i.I ≤ c.L.length))
     (.ite (allFrom (crestAt n.I c.L) i.I.toNat (c.L.length - i.I.toNat)) (.leaf (.exit 2, [.i n.I, .l p.L, .l c.L, .l j.L])) (.leaf (.ret, [.b false])))
 | _ => .fail
def G39_16 (ds : List D) : T (Ex × List D) := match ds with
 | [n, i, _, _, j] => .need (yes (j.L.length ≤ 200 ∧ 0 ≤ i.I ∧ i.I ≤ j.L.length))
     (.ite (allFrom (juncAt n.I j.L) i.I.toNat (j.L.length - i.I.toNat)) (.leaf (.exit 4, [.i n.I])) (.leaf (.ret, [.b false])))
 | _ => .fail
end
noncomputable section
def begs (l : List (List D)) : Nat → Nat → Int → List (List D)
 | _, 0, _ => []
 | i, k + 1, n => [D.i n] :: begs l (i + 1) k (n + ix (l.getD i []) 0)
def begR (l : List (List D)) : List (List D) := begs l 0 l.length 0 ++ [[D.i (lenR l)]]
def manyP (l : List (List D)) : Prop := 1 ≤ l.length ∧ l.length ≤ 2000 ∧ allFrom (pieceAt l) 0 l.length = true
def G52 (ds : List D) : T (List D) := match ds with
 | [p, c, j] => .need (yes (manyP p.L)) (.leaf [.l p.L, .l c.L, .l j.L, .i (p.L.length + 1 : Nat), .l (begR p.L)])
 | _ => .fail
def G52_4 (ds : List D) : T (Ex × List D) := match ds with
 | [h, n, q, m, i, p, c, j] => .need (yes (h.I = 0 ∧ n.I = 0 ∧ q.L = p.L ∧ m.I = p.L.length ∧ i.I = 0 ∧ manyP p.L))
     (.leaf (.exit 0, [.i 1, .i (lenR p.L), .l p.L, .l c.L, .l j.L, .i p.L.length, .l (begs p.L 0 p.L.length 0)]))
 | [h, n, q, m, i, p, c, j, s, r] => .need (yes (h.I = 1 ∧ q.L = p.L ∧ m.I = p.L.length ∧ 1 ≤ i.I ∧ i.I ≤ m.I ∧ manyP p.L ∧ s.I = i.I ∧ r.L.length = i.I ∧ 0 ≤ n.I ∧ n.I ≤ 5000 * i.I))
     (.leaf (.exit 0, [.i 1, .i (n.I + lenFrom p.L i.I.toNat (p.L.length - i.I.toNat)), .l p.L, .l c.L, .l j.L, .i p.L.length, .l (r.L ++ begs p.L i.I.toNat (p.L.length - i.I.toNat) n.I)]))
 | _ => .fail
def G53 (ds : List D) : T (List D) := match ds with
 | [p, _, _, r] => .need (yes (manyP p.L ∧ r.L = begR p.L)) (.leaf [.i (ix (r.L.getD p.L.length []) 0)])
 | _ => .fail
end
def s56 : Sig := ⟨[.k (.ro [.int .i64, .int .i64, .int .i64, .int .i64, .int .i64])], [(.sl 0 5, [.row [.int .i64, .int .i64, .int .i64, .int .i64, .int .i64]])]⟩
def s57 : Sig := ⟨[.k (.ro [.int .i64, .int .i64])], [(.sl 0 2, [.row [.int .i64, .int .i64]]), (.emp 2, [])]⟩
def s58 : Sig := ⟨[.k (.ro [.int .i64, .int .i64, .int .i64])], [(.sl 0 3, [.row [.int .i64, .int .i64, .int .i64]]), (.emp 3, [])]⟩
def s59 : SigW := ⟨[.sl 0 5], [.row [.int .i64, .int .i64, .int .i64, .int .i64, .int .i64]], [(.tup [], [.row [.int .i64, .int .i64, .int .i64, .int .i64, .int .i64]])]⟩
def l59_1 : LSig := mkLS [0, 2, 3] [(28, [(0, .sl 0 5), (2, .k (.int .i64)), (3, .k (.int .i64))], [.row [.int .i64, .int .i64, .int .i64, .int .i64, .int .i64]])] [(.exit 0, [], [(28, [], [.row [.int .i64, .int .i64, .int .i64, .int .i64, .int .i64]])])]
def s60 : SigW := ⟨[.sl 0 2], [.row [.int .i64, .int .i64]], [(.tup [], [.row [.int .i64, .int .i64]])]⟩
def l60_1 : LSig := mkLS [0, 2, 3] [(28, [(0, .sl 0 2), (2, .k (.int .i64)), (3, .k (.int .i64))], [.row [.int .i64, .int .i64]])] [(.exit 0, [], [(28, [], [.row [.int .i64, .int .i64]])])]
def s61 : SigW := ⟨[.sl 0 3], [.row [.int .i64, .int .i64, .int .i64]], [(.tup [], [.row [.int .i64, .int .i64, .int .i64]])]⟩
def l61_1 : LSig := mkLS [0, 2, 3] [(28, [(0, .sl 0 3), (2, .k (.int .i64)), (3, .k (.int .i64))], [.row [.int .i64, .int .i64, .int .i64]])] [(.exit 0, [], [(28, [], [.row [.int .i64, .int .i64, .int .i64]])])]
def s1060 : SigW := ⟨[.emp 2], [], [(.tup [], [])]⟩
def l1060_1 : LSig := mkLS [0, 2, 3] [(28, [(0, .emp 2), (2, .k (.int .i64)), (3, .k (.int .i64))], [])] [(.exit 0, [], [(28, [], [])])]
def s1061 : SigW := ⟨[.emp 3], [], [(.tup [], [])]⟩
def l1061_1 : LSig := mkLS [0, 2, 3] [(28, [(0, .emp 3), (2, .k (.int .i64)), (3, .k (.int .i64))], [])] [(.exit 0, [], [(28, [], [])])]
def s20 : Sig := ⟨[.agg [.k (.ro [.int .i64, .int .i64, .int .i64, .int .i64, .int .i64]), .k (.ro [.int .i64, .int .i64]), .k (.ro [.int .i64, .int .i64, .int .i64])]], [(.tup [.agg [.k (.ro [.int .i64, .int .i64, .int .i64, .int .i64, .int .i64]), .k (.ro [.int .i64, .int .i64]), .k (.ro [.int .i64, .int .i64, .int .i64])], .k (.int .i64)], [])]⟩
def l20_10 : LSig := mkLS [2, 5, 6, 41, 42] [(112, [(2, .ptr 0 3 0 0), (5, .k (.int .i64)), (6, .ptr 1 3 0 0), (41, .k (.int .i64)), (42, .k (.int .i64))], [.box [.nils, .nils, .nils], .box [.sl 2 5, .emp 2, .emp 3], .row [.int .i64, .int .i64, .int .i64, .int .i64, .int .i64]]), (112, [(2, .ptr 0 3 0 0), (5, .k (.int .i64)), (6, .ptr 1 3 0 0), (41, .k (.int .i64)), (42, .k (.int .i64))], [.box [.nils, .nils, .nils], .box [.sl 2 5, .emp 2, .sl 3 3], .row [.int .i64, .int .i64, .int .i64, .int .i64, .int .i64], .row [.int .i64, .int .i64, .int .i64]]), (112, [(2, .ptr 0 3 0 0), (5, .k (.int .i64)), (6, .ptr 1 3 0 0), (41, .k (.int .i64)), (42, .k (.int .i64))], [.box [.nils, .nils, .nils], .box [.sl 2 5, .sl 3 2, .emp 3], .row [.int .i64, .int .i64, .int .i64, .int .i64, .int .i64], .row [.int .i64, .int .i64]]), (112, [(2, .ptr 0 3 0 0), (5, .k (.int .i64)), (6, .ptr 1 3 0 0), (41, .k (.int .i64)), (42, .k (.int .i64))], [.box [.nils, .nils, .nils], .box [.sl 2 5, .sl 3 2, .sl 4 3], .row [.int .i64, .int .i64, .int .i64, .int .i64, .int .i64], .row [.int .i64, .int .i64], .row [.int .i64, .int .i64, .int .i64]])] [(.exit 0, [2, 5, 6], [(112, [(2, .ptr 0 3 0 0), (5, .k (.int .i64)), (6, .ptr 1 3 0 0)], [.box [.nils, .nils, .nils], .box [.sl 2 5, .emp 2, .emp 3], .row [.int .i64, .int .i64, .int .i64, .int .i64, .int .i64]]), (112, [(2, .ptr 0 3 0 0), (5, .k (.int .i64)), (6, .ptr 1 3 0 0)], [.box [.nils, .nils, .nils], .box [.sl 2 5, .emp 2, .sl 3 3], .row [.int .i64, .int .i64, .int .i64, .int .i64, .int .i64], .row [.int .i64, .int .i64, .int .i64]]), (112, [(2, .ptr 0 3 0 0), (5, .k (.int .i64)), (6, .ptr 1 3 0 0)], [.box [.nils, .nils, .nils], .box [.sl 2 5, .sl 3 2, .emp 3], .row [.int .i64, .int .i64, .int .i64, .int .i64, .int .i64], .row [.int .i64, .int .i64]]), (112, [(2, .ptr 0 3 0 0), (5, .k (.int .i64)), (6, .ptr 1 3 0 0)], [.box [.nils, .nils, .nils], .box [.sl 2 5, .sl 3 2, .sl 4 3], .row [.int .i64, .int .i64, .int .i64, .int .i64, .int .i64], .row [.int .i64, .int .i64], .row [.int .i64, .int .i64, .int .i64]])])]
def l20_15 : LSig := mkLS [2, 5, 6, 60, 61] [(112, [(2, .ptr 0 3 0 0), (5, .k (.int .i64)), (6, .ptr 1 3 0 0), (60, .k (.int .i64)), (61, .k (.int .i64))], [.box [.nils, .nils, .nils], .box [.sl 2 5, .emp 2, .emp 3], .row [.int .i64, .int .i64, .int .i64, .int .i64, .int .i64]]), (112, [(2, .ptr 0 3 0 0), (5, .k (.int .i64)), (6, .ptr 1 3 0 0), (60, .k (.int .i64)), (61, .k (.int .i64))], [.box [.nils, .nils, .nils], .box [.sl 2 5, .emp 2, .sl 3 3], .row [.int .i64, .int .i64, .int .i64, .int .i64, .int .i64], .row [.int .i64, .int .i64, .int .i64]]), (112, [(2, .ptr 0 3 0 0), (5, .k (.int .i64)), (6, .ptr 1 3 0 0), (60, .k (.int .i64)), (61, .k (.int .i64))], [.box [.nils, .nils, .nils], .box [.sl 2 5, .sl 3 2, .emp 3], .row [.int .i64, .int .i64, .int .i64, .int .i64, .int .i64], .row [.int .i64, .int .i64]]), (112, [(2, .ptr 0 3 0 0), (5, .k (.int .i64)), (6, .ptr 1 3 0 0), (60, .k (.int .i64)), (61, .k (.int .i64))], [.box [.nils, .nils, .nils], .box [.sl 2 5, .sl 3 2, .sl 4 3], .row [.int .i64, .int .i64, .int .i64, .int .i64, .int .i64], .row [.int .i64, .int .i64], .row [.int .i64, .int .i64, .int .i64]])] [(.exit 2, [2, 5, 6], [(112, [(2, .ptr 0 3 0 0), (5, .k (.int .i64)), (6, .ptr 1 3 0 0)], [.box [.nils, .nils, .nils], .box [.sl 2 5, .emp 2, .emp 3], .row [.int .i64, .int .i64, .int .i64, .int .i64, .int .i64]]), (112, [(2, .ptr 0 3 0 0), (5, .k (.int .i64)), (6, .ptr 1 3 0 0)], [.box [.nils, .nils, .nils], .box [.sl 2 5, .emp 2, .sl 3 3], .row [.int .i64, .int .i64, .int .i64, .int .i64, .int .i64], .row [.int .i64, .int .i64, .int .i64]]), (112, [(2, .ptr 0 3 0 0), (5, .k (.int .i64)), (6, .ptr 1 3 0 0)], [.box [.nils, .nils, .nils], .box [.sl 2 5, .sl 3 2, .emp 3], .row [.int .i64, .int .i64, .int .i64, .int .i64, .int .i64], .row [.int .i64, .int .i64]]), (112, [(2, .ptr 0 3 0 0), (5, .k (.int .i64)), (6, .ptr 1 3 0 0)], [.box [.nils, .nils, .nils], .box [.sl 2 5, .sl 3 2, .sl 4 3], .row [.int .i64, .int .i64, .int .i64, .int .i64, .int .i64], .row [.int .i64, .int .i64], .row [.int .i64, .int .i64, .int .i64]])])]
def l20_20 : LSig := mkLS [2, 5, 6, 80, 81] [(112, [(2, .ptr 0 3 0 0), (5, .k (.int .i64)), (6, .ptr 1 3 0 0), (80, .k (.int .i64)), (81, .k (.int .i64))], [.box [.nils, .nils, .nils], .box [.sl 2 5, .emp 2, .emp 3], .row [.int .i64, .int .i64, .int .i64, .int .i64, .int .i64]]), (112, [(2, .ptr 0 3 0 0), (5, .k (.int .i64)), (6, .ptr 1 3 0 0), (80, .k (.int .i64)), (81, .k (.int .i64))], [.box [.nils, .nils, .nils], .box [.sl 2 5, .emp 2, .sl 3 3], .row [.int .i64, .int .i64, .int .i64, .int .i64, .int .i64], .row [.int .i64, .int .i64, .int .i64]]), (112, [(2, .ptr 0 3 0 0), (5, .k (.int .i64)), (6, .ptr 1 3 0 0), (80, .k (.int .i64)), (81, .k (.int .i64))], [.box [.nils, .nils, .nils], .box [.sl 2 5, .sl 3 2, .emp 3], .row [.int .i64, .int .i64, .int .i64, .int .i64, .int .i64], .row [.int .i64, .int .i64]]), (112, [(2, .ptr 0 3 0 0), (5, .k (.int .i64)), (6, .ptr 1 3 0 0), (80, .k (.int .i64)), (81, .k (.int .i64))], [.box [.nils, .nils, .nils], .box [.sl 2 5, .sl 3 2, .sl 4 3], .row [.int .i64, .int .i64, .int .i64, .int .i64, .int .i64], .row [.int .i64, .int .i64], .row [.int .i64, .int .i64, .int .i64]])] [(.exit 4, [2, 6], [(112, [(2, .ptr 0 3 0 0), (6, .ptr 1 3 0 0)], [.box [.nils, .nils, .nils], .box [.sl 2 5, .emp 2, .emp 3], .row [.int .i64, .int .i64, .int .i64, .int .i64, .int .i64]]), (112, [(2, .ptr 0 3 0 0), (6, .ptr 1 3 0 0)], [.box [.nils, .nils, .nils], .box [.sl 2 5, .emp 2, .sl 3 3], .row [.int .i64, .int .i64, .int .i64, .int .i64, .int .i64], .row [.int .i64, .int .i64, .int .i64]]), (112, [(2, .ptr 0 3 0 0), (6, .ptr 1 3 0 0)], [.box [.nils, .nils, .nils], .box [.sl 2 5, .sl 3 2, .emp 3], .row [.int .i64, .int .i64, .int .i64, .int .i64, .int .i64], .row [.int .i64, .int .i64]]), (112, [(2, .ptr 0 3 0 0), (6, .ptr 1 3 0 0)], [.box [.nils, .nils, .nils], .box [.sl 2 5, .sl 3 2, .sl 4 3], .row [.int .i64, .int .i64, .int .i64, .int .i64, .int .i64], .row [.int .i64, .int .i64], .row [.int .i64, .int .i64, .int .i64]])])]
noncomputable section
def G64 (ds : List D) : T (List D) := match ds with
 | [a, b, c] => .leaf [.b (within a.I b.I c.I)]
 | _ => .fail
end
noncomputable def sp64 : SpL := []
noncomputable def lp64 : LpL := []
noncomputable def sw64 : SwL := []
noncomputable def tab64 : Tab := mkTab sp64 lp64 sw64
set_option linter.unusedVariables false
set_option maxRecDepth 100000
theorem t64 (a b c : D) : fnT C tab64 64 s64 [a, b, c] =
 T.ite (decide (a.I ≥ b.I)) (T.leaf [D.b (decide (a.I ≤ c.I))]) (T.leaf [D.b false]) := by kernel_rfl
theorem hC : ∀ t Y, C.ty t = some Y → tyOf C.P t = some Y := by
 intro t Y h
 dsimp only [C] at h ⊢
 exact h
theorem fuelC : C.fuel = 18446744073709551616 := by kernel_rfl
theorem ok64 (n : Nat) : FnOK C (n + 1) 64 (mkF s64 G64) := by
 refine fn_of hC (sp := sp64) (lp := lp64) trivial (by kernel_rfl) [] (by kernel_rfl) rfl (fun k hk => by cases hk) fun ds r h => ?_
 unfold G64 at h
 split at h
 ·rename_i a b c
  rw [← h]
  refine (congrArg T.run (t64 a b c)).trans ?_
  simp only [run_ite, run_leaf, within]
  split <;> rename_i hc
  ·have : b.I ≤ a.I := of_decide_eq_true hc
   simp [this]
  ·have : ¬ b.I ≤ a.I := fun h => hc (decide_eq_true h)
   simp [this]
 ·cases h
noncomputable def sp55 : SpL := []
noncomputable def lp55 : LpL := []
noncomputable def sw55 : SwL := []
noncomputable def tab55 : Tab := mkTab sp55 lp55 sw55
noncomputable def sp88 : SpL := []
noncomputable def lp88 : LpL := []
noncomputable def sw88 : SwL := []
noncomputable def tab88 : Tab := mkTab sp88 lp88 sw88
noncomputable def sp97 : SpL := [(55, mkF s55 G55)]
noncomputable def lp97 : LpL := []
noncomputable def sw97 : SwL := []
noncomputable def tab97 : Tab := mkTab sp97 lp97 sw97
noncomputable def sp89 : SpL := [(88, mkF s88 G88)]
noncomputable def lp89 : LpL := []
noncomputable def sw89 : SwL := []
noncomputable def tab89 : Tab := mkTab sp89 lp89 sw89
noncomputable def sp51 : SpL := [(55, mkF s55 G55), (97, mkF s97 G97)]
noncomputable def lp51 : LpL := [(5, mkL l51_5 G51_5), (14, mkL l51_14 G51_14), (20, mkL l51_20 G51_20)]
noncomputable def sw51 : SwL := []
noncomputable def tab51 : Tab := mkTab sp51 lp51 sw51
noncomputable def sp19 : SpL := []
noncomputable def lp19 : LpL := [(3, mkL l19_3 G19_3)]
noncomputable def sw19 : SwL := []
noncomputable def tab19 : Tab := mkTab sp19 lp19 sw19
noncomputable def sp39 : SpL := [(88, mkF s88 G88), (89, mkF s89 G89), (19, mkF s19 G19)]
noncomputable def lp39 : LpL := [(4, mkL l39_4 G39_4), (10, mkL l39_10 G39_10), (16, mkL l39_16 G39_16)]
noncomputable def sw39 : SwL := []
noncomputable def tab39 : Tab := mkTab sp39 lp39 sw39
set_option linter.unusedVariables false
set_option maxRecDepth 100000
theorem t55 (a b c : D) : fnT C tab55 55 s55 [a, b, c] =
 T.ite (decide (a.I ≥ b.I)) (T.leaf [D.b (decide (a.I ≤ c.I))]) (T.leaf [D.b false]) := by kernel_rfl
theorem t88 (a b c : D) : fnT C tab88 88 s88 [a, b, c] =
 T.ite (decide (a.I ≥ b.I)) (T.leaf [D.b (decide (a.I ≤ c.I))]) (T.leaf [D.b false]) := by kernel_rfl
theorem t97 (a b c d e : D) : fnT C tab97 97 s97 [a, b, c, d, e] =
 T.ite (b.I == (0 : Int)) (T.ite (c.I != (0 : Int)) (T.leaf [D.b false]) (T.ite (b.I != (0 : Int)) (T.ite (!within c.I (5 : Int) (2000 : Int)) (T.leaf [D.b false]) (T.ite (within a.I (1 : Int) (5000 : Int)) (T.ite (within b.I (-1 : Int) (1 : Int)) (T.ite (within d.I (15 : Int) (300 : Int)) (T.leaf [D.b (within e.I (1 : Int) (9 : Int))]) (T.leaf [D.b false])) (T.leaf [D.b false])) (T.leaf [D.b false]))) (T.ite (within a.I (1 : Int) (5000 : Int)) (T.ite (within b.I (-1 : Int) (1 : Int)) (T.ite (within d.I (15 : Int) (300 : Int)) (T.leaf [D.b (within e.I (1 : Int) (9 : Int))]) (T.leaf [D.b false])) (T.leaf [D.b false])) (T.leaf [D.b false])))) (T.ite (b.I != (0 : Int)) (T.ite (!within c.I (5 : Int) (2000 : Int)) (T.leaf [D.b false]) (T.ite (within a.I (1 : Int) (5000 : Int)) (T.ite (within b.I (-1 : Int) (1 : Int)) (T.ite (within d.I (15 : Int) (300 : Int)) (T.leaf [D.b (within e.I (1 : Int) (9 : Int))]) (T.leaf [D.b false])) (T.leaf [D.b false])) (T.leaf [D.b false]))) (T.ite (within a.I (1 : Int) (5000 : Int)) (T.ite (within b.I (-1 : Int) (1 : Int)) (T.ite (within d.I (15 : Int) (300 : Int)) (T.leaf [D.b (within e.I (1 : Int) (9 : Int))]) (T.leaf [D.b false])) (T.leaf [D.b false])) (T.leaf [D.b false]))) := by kernel_rfl
theorem t89 (a b c d e : D) : fnT C tab89 89 s89 [a, b, c, d, e] =
 T.ite (!within a.I (1 : Int) (5000 : Int)) (T.leaf [D.b false]) (T.ite (!within b.I (-1 : Int) (1 : Int)) (T.leaf [D.b false]) (T.ite (!within d.I (15 : Int) (300 : Int)) (T.leaf [D.b false]) (T.ite (!within e.I (1 : Int) (9 : Int)) (T.leaf [D.b false]) (T.ite (b.I == (0 : Int)) (T.leaf [D.b (c.I == (0 : Int))]) (T.leaf [D.b (within c.I (5 : Int) (2000 : Int))]))))) := by kernel_rfl
theorem t51 (a b c : D) : fnT C tab51 51 s51 [a, b, c] =
 T.ite (!within (a.L.length : Int) (1 : Int) (2000 : Int)) (T.leaf [D.i 2]) (T.ite (decide ((b.L.length : Int) > (1000 : Int))) (T.leaf [D.i 2]) (T.ite (decide ((c.L.length : Int) > (200 : Int))) (T.leaf [D.i 2]) (T.need (yes (a.L = a.L ∧ (a.L.length : Int) = (a.L.length : Int) ∧ (0 : Int) ≤ (0 : Int) ∧ (0 : Int) ≤ (a.L.length : Int) ∧ (a.L.length : Int) ≤ (2000 : Int) ∧ (0 : Int) ≤ (0 : Int) ∧ (0 : Int) ≤ (5000 : Int) * (0 : Int))) (T.ite (allFrom (pieceAt a.L) (Int.toNat (0 : Int)) (a.L.length - Int.toNat (0 : Int))) (T.ite (decide ((0 : Int) + lenFrom a.L (Int.toNat (0 : Int)) (a.L.length - Int.toNat (0 : Int)) > (100000 : Int))) (T.leaf [D.i 2]) (T.need (yes (b.L = b.L ∧ (b.L.length : Int) = (b.L.length : Int) ∧ (0 : Int) ≤ (0 : Int) ∧ (0 : Int) ≤ (b.L.length : Int) ∧ (b.L.length : Int) ≤ (1000 : Int))) (T.ite (allFrom (crestAt ((0 : Int) + lenFrom a.L (Int.toNat (0 : Int)) (a.L.length - Int.toNat (0 : Int))) b.L) (Int.toNat (0 : Int)) (b.L.length - Int.toNat (0 : Int))) (T.need (yes (c.L = c.L ∧ (c.L.length : Int) = (c.L.length : Int) ∧ (0 : Int) ≤ (0 : Int) ∧ (0 : Int) ≤ (c.L.length : Int) ∧ (c.L.length : Int) ≤ (200 : Int))) (T.ite (allFrom (juncAt ((0 : Int) + lenFrom a.L (Int.toNat (0 : Int)) (a.L.length - Int.toNat (0 : Int))) c.L) (Int.toNat (0 : Int)) (c.L.length - Int.toNat (0 : Int))) (T.leaf [D.i 0]) (T.leaf [D.i 2]))) (T.leaf [D.i 2])))) (T.leaf [D.i 2]))))) := by kernel_rfl
theorem t51_5 (a b c d e f g : D) : roundT C tab51 51 (loopOf C.P 51 5) l51_5 [a, b, c, d, e, f, g] =
 T.ite (decide (d.I < c.I)) (T.need (decide ((0 : Int) ≤ d.I ∧ d.I < (b.L.length : Int))) (T.ite (!pieceP (D.I (List.getD (List.getD b.L d.I.toNat []) 0 default)) (D.I (List.getD (List.getD b.L d.I.toNat []) (0 + 1) default)) (D.I (List.getD (List.getD b.L d.I.toNat []) (0 + 1 + 1) default)) (D.I (List.getD (List.getD b.L d.I.toNat []) (0 + 1 + 1 + 1) default)) (D.I (List.getD (List.getD b.L d.I.toNat []) (0 + 1 + 1 + 1 + 1) default))) (T.leaf (Rd.out Ex.ret [D.i 2])) (T.leaf (Rd.again [D.i (IntKind.i64.wrap (a.I + D.I (List.getD (List.getD b.L d.I.toNat []) 0 default))), D.l b.L, D.i c.I, D.i (IntKind.i64.wrap (d.I + (1 : Int))), D.l e.L, D.l f.L, D.l g.L])))) (T.leaf (Rd.out (Ex.exit 0) [D.i a.I, D.l e.L, D.l f.L, D.l g.L])) := by kernel_rfl
theorem t51_14 (a b c d e f g : D) : roundT C tab51 51 (loopOf C.P 51 14) l51_14 [a, b, c, d, e, f, g] =
 T.ite (decide (d.I < c.I)) (T.need (decide ((0 : Int) ≤ d.I ∧ d.I < (b.L.length : Int))) (T.ite (!within (D.I (List.getD (List.getD b.L d.I.toNat []) 0 default)) (0 : Int) a.I) (T.leaf (Rd.out Ex.ret [D.i 2])) (T.ite (!within (D.I (List.getD (List.getD b.L d.I.toNat []) (0 + 1) default)) (1 : Int) (3 : Int)) (T.leaf (Rd.out Ex.ret [D.i 2])) (T.ite (decide (d.I > (0 : Int))) (T.need (decide ((0 : Int) ≤ IntKind.i64.wrap (d.I - (1 : Int)) ∧ IntKind.i64.wrap (d.I - (1 : Int)) < (f.L.length : Int))) (T.ite (decide (D.I (List.getD (List.getD b.L d.I.toNat []) 0 default) ≤ D.I (List.getD (List.getD f.L (Int.toNat (IntKind.i64.wrap (d.I - (1 : Int)))) []) 0 default))) (T.leaf (Rd.out Ex.ret [D.i 2])) (T.leaf (Rd.again [D.i a.I, D.l b.L, D.i c.I, D.i (IntKind.i64.wrap (d.I + (1 : Int))), D.l e.L, D.l f.L, D.l g.L])))) (T.leaf (Rd.again [D.i a.I, D.l b.L, D.i c.I, D.i (IntKind.i64.wrap (d.I + (1 : Int))), D.l e.L, D.l f.L, D.l g.L])))))) (T.leaf (Rd.out (Ex.exit 2) [D.i a.I, D.l e.L, D.l f.L, D.l g.L])) := by kernel_rfl
theorem t51_20 (a b c d e f g : D) : roundT C tab51 51 (loopOf C.P 51 20) l51_20 [a, b, c, d, e, f, g] =
 T.ite (decide (d.I < c.I)) (T.need (decide ((0 : Int) ≤ d.I ∧ d.I < (b.L.length : Int))) (T.ite (!within (D.I (List.getD (List.getD b.L d.I.toNat []) 0 default)) (0 : Int) a.I) (T.leaf (Rd.out Ex.ret [D.i 2])) (T.ite (!within (D.I (List.getD (List.getD b.L d.I.toNat []) (0 + 1) default)) (2 : Int) (6 : Int)) (T.leaf (Rd.out Ex.ret [D.i 2])) (T.ite (!within (D.I (List.getD (List.getD b.L d.I.toNat []) (0 + 1 + 1) default)) (1 : Int) (D.I (List.getD (List.getD b.L d.I.toNat []) (0 + 1) default))) (T.leaf (Rd.out Ex.ret [D.i 2])) (T.ite (decide (d.I > (0 : Int))) (T.need (decide ((0 : Int) ≤ IntKind.i64.wrap (d.I - (1 : Int)) ∧ IntKind.i64.wrap (d.I - (1 : Int)) < (g.L.length : Int))) (T.ite (decide (D.I (List.getD (List.getD b.L d.I.toNat []) 0 default) ≤ D.I (List.getD (List.getD g.L (Int.toNat (IntKind.i64.wrap (d.I - (1 : Int)))) []) 0 default))) (T.leaf (Rd.out Ex.ret [D.i 2])) (T.leaf (Rd.again [D.i a.I, D.l b.L, D.i c.I, D.i (IntKind.i64.wrap (d.I + (1 : Int))), D.l e.L, D.l f.L, D.l g.L])))) (T.leaf (Rd.again [D.i a.I, D.l b.L, D.i c.I, D.i (IntKind.i64.wrap (d.I + (1 : Int))), D.l e.L, D.l f.L, D.l g.L]))))))) (T.leaf (Rd.out (Ex.exit 4) [])) := by kernel_rfl
theorem t19 (a b c : D) : fnT C tab19 19 s19 [a, b, c] =
 T.need (yes (a.L.length ≤ 2000 ∧ allFrom (pieceAt a.L) 0 a.L.length = true ∧ (0 : Int) ≤ (0 : Int) ∧ (0 : Int) ≤ (a.L.length : Int) ∧ (0 : Int) ≤ (0 : Int) ∧ (0 : Int) ≤ (5000 : Int) * (0 : Int))) (T.leaf [D.i ((0 : Int) + lenFrom a.L (Int.toNat (0 : Int)) (a.L.length - Int.toNat (0 : Int)))]) := by kernel_rfl
theorem t19_3 (a b c d e : D) : roundT C tab19 19 (loopOf C.P 19 3) l19_3 [a, b, c, d, e] =
 T.ite (decide (b.I < (c.L.length : Int))) (T.need (decide ((0 : Int) ≤ b.I ∧ b.I < (c.L.length : Int))) (T.leaf (Rd.again [D.i (IntKind.i64.wrap (a.I + D.I (List.getD (List.getD c.L b.I.toNat []) 0 default))), D.i (IntKind.i64.wrap (b.I + (1 : Int))), D.l c.L, D.l d.L, D.l e.L]))) (T.leaf (Rd.out (Ex.exit 0) [D.i a.I])) := by kernel_rfl
theorem t39 (a b c : D) : fnT C tab39 39 s39 [a, b, c] =
 T.ite (!within (a.L.length : Int) (1 : Int) (2000 : Int)) (T.leaf [D.b false]) (T.ite (decide ((b.L.length : Int) > (1000 : Int))) (T.leaf [D.b false]) (T.ite (decide ((c.L.length : Int) > (200 : Int))) (T.leaf [D.b false]) (T.need (yes (a.L.length ≤ 2000 ∧ (0 : Int) ≤ (0 : Int) ∧ (0 : Int) ≤ (a.L.length : Int))) (T.ite (allFrom (pieceAt a.L) (Int.toNat (0 : Int)) (a.L.length - Int.toNat (0 : Int))) (T.need (yes (a.L.length ≤ 2000 ∧ allFrom (pieceAt a.L) 0 a.L.length = true)) (T.need (yes (b.L.length ≤ 1000 ∧ (0 : Int) ≤ (0 : Int) ∧ (0 : Int) ≤ (b.L.length : Int))) (T.ite (allFrom (crestAt (lenR a.L) b.L) (Int.toNat (0 : Int)) (b.L.length - Int.toNat (0 : Int))) (T.need (yes (c.L.length ≤ 200 ∧ (0 : Int) ≤ (0 : Int) ∧ (0 : Int) ≤ (c.L.length : Int))) (T.ite (allFrom (juncAt (lenR a.L) c.L) (Int.toNat (0 : Int)) (c.L.length - Int.toNat (0 : Int))) (T.leaf [D.b (decide (lenR a.L ≤ (100000 : Int)))]) (T.leaf [D.b false]))) (T.leaf [D.b false])))) (T.leaf [D.b false]))))) := by kernel_rfl
theorem t39_4 (a b c d : D) : roundT C tab39 39 (loopOf C.P 39 4) l39_4 [a, b, c, d] =
 T.ite (decide (a.I < (b.L.length : Int))) (T.need (decide ((0 : Int) ≤ a.I ∧ a.I < (b.L.length : Int))) (T.ite (!pieceP (D.I (List.getD (List.getD b.L a.I.toNat []) 0 default)) (D.I (List.getD (List.getD b.L a.I.toNat []) (0 + 1) default)) (D.I (List.getD (List.getD b.L a.I.toNat []) (0 + 1 + 1) default)) (D.I (List.getD (List.getD b.L a.I.toNat []) (0 + 1 + 1 + 1) default)) (D.I (List.getD (List.getD b.L a.I.toNat []) (0 + 1 + 1 + 1 + 1) default))) (T.leaf (Rd.out Ex.ret [D.b false])) (T.leaf (Rd.again [D.i (IntKind.i64.wrap (a.I + (1 : Int))), D.l b.L, D.l c.L, D.l d.L])))) (T.leaf (Rd.out (Ex.exit 0) [D.l b.L, D.l c.L, D.l d.L])) := by kernel_rfl
theorem t39_10 (a b c d e : D) : roundT C tab39 39 (loopOf C.P 39 10) l39_10 [a, b, c, d, e] =
 T.ite (decide (b.I < (d.L.length : Int))) (T.need (decide ((0 : Int) ≤ b.I ∧ b.I < (d.L.length : Int))) (T.ite (!within (D.I (List.getD (List.getD d.L b.I.toNat []) 0 default)) (0 : Int) a.I) (T.leaf (Rd.out Ex.ret [D.b false])) (T.ite (!within (D.I (List.getD (List.getD d.L b.I.toNat []) (0 + 1) default)) (1 : Int) (3 : Int)) (T.leaf (Rd.out Ex.ret [D.b false])) (T.ite (decide (b.I > (0 : Int))) (T.need (decide ((0 : Int) ≤ IntKind.i64.wrap (b.I - (1 : Int)) ∧ IntKind.i64.wrap (b.I - (1 : Int)) < (d.L.length : Int))) (T.ite (decide (D.I (List.getD (List.getD d.L b.I.toNat []) 0 default) ≤ D.I (List.getD (List.getD d.L (Int.toNat (IntKind.i64.wrap (b.I - (1 : Int)))) []) 0 default))) (T.leaf (Rd.out Ex.ret [D.b false])) (T.leaf (Rd.again [D.i a.I, D.i (IntKind.i64.wrap (b.I + (1 : Int))), D.l c.L, D.l d.L, D.l e.L])))) (T.leaf (Rd.again [D.i a.I, D.i (IntKind.i64.wrap (b.I + (1 : Int))), D.l c.L, D.l d.L, D.l e.L])))))) (T.leaf (Rd.out (Ex.exit 2) [D.i a.I, D.l c.L, D.l d.L, D.l e.L])) := by kernel_rfl
theorem t39_16 (a b c d e : D) : roundT C tab39 39 (loopOf C.P 39 16) l39_16 [a, b, c, d, e] =
 T.ite (decide (b.I < (e.L.length : Int))) (T.need (decide ((0 : Int) ≤ b.I ∧ b.I < (e.L.length : Int))) (T.ite (!within (D.I (List.getD (List.getD e.L b.I.toNat []) 0 default)) (0 : Int) a.I) (T.leaf (Rd.out Ex.ret [D.b false])) (T.ite (!within (D.I (List.getD (List.getD e.L b.I.toNat []) (0 + 1) default)) (2 : Int) (6 : Int)) (T.leaf (Rd.out Ex.ret [D.b false])) (T.ite (!within (D.I (List.getD (List.getD e.L b.I.toNat []) (0 + 1 + 1) default)) (1 : Int) (D.I (List.getD (List.getD e.L b.I.toNat []) (0 + 1) default))) (T.leaf (Rd.out Ex.ret [D.b false])) (T.ite (decide (b.I > (0 : Int))) (T.need (decide ((0 : Int) ≤ IntKind.i64.wrap (b.I - (1 : Int)) ∧ IntKind.i64.wrap (b.I - (1 : Int)) < (e.L.length : Int))) (T.ite (decide (D.I (List.getD (List.getD e.L b.I.toNat []) 0 default) ≤ D.I (List.getD (List.getD e.L (Int.toNat (IntKind.i64.wrap (b.I - (1 : Int)))) []) 0 default))) (T.leaf (Rd.out Ex.ret [D.b false])) (T.leaf (Rd.again [D.i a.I, D.i (IntKind.i64.wrap (b.I + (1 : Int))), D.l c.L, D.l d.L, D.l e.L])))) (T.leaf (Rd.again [D.i a.I, D.i (IntKind.i64.wrap (b.I + (1 : Int))), D.l c.L, D.l d.L, D.l e.L]))))))) (T.leaf (Rd.out (Ex.exit 4) [D.i a.I])) := by kernel_rfl
theorem ok55 (n : Nat) : FnOK C (n + 1) 55 (mkF s55 G55) := by
 refine fn_of hC (sp := sp55) (lp := lp55) trivial (by kernel_rfl) [] (by kernel_rfl) rfl (fun k hk => by cases hk) fun ds r h => ?_
 unfold G55 at h
 split at h
 ·rename_i a b c
  rw [← h]
  refine (congrArg T.run (t55 a b c)).trans ?_
  simp only [run_ite, run_leaf, within]
  split <;> rename_i hc
  ·have : b.I ≤ a.I := of_decide_eq_true hc
   simp [this]
  ·have : ¬ b.I ≤ a.I := fun h => hc (decide_eq_true h)
   simp [this]
 ·cases h
theorem ok88 (n : Nat) : FnOK C (n + 1) 88 (mkF s88 G88) := by
 refine fn_of hC (sp := sp88) (lp := lp88) trivial (by kernel_rfl) [] (by kernel_rfl) rfl (fun k hk => by cases hk) fun ds r h => ?_
 unfold G88 at h
 split at h
 ·rename_i a b c
  rw [← h]
  refine (congrArg T.run (t88 a b c)).trans ?_
  simp only [run_ite, run_leaf, within]
  split <;> rename_i hc
  ·have : b.I ≤ a.I := of_decide_eq_true hc
   simp [this]
  ·have : ¬ b.I ≤ a.I := fun h => hc (decide_eq_true h)
   simp [this]
 ·cases h
theorem ok89 (n : Nat) : FnOK C (n + 2) 89 (mkF s89 G89) := by
 refine fn_of hC (sp := sp89) (lp := lp89) ⟨ok88 n, trivial⟩ (by kernel_rfl) [] (by kernel_rfl) rfl (fun k hk => by cases hk) fun ds r h => ?_
 unfold G89 at h
 split at h
 ·rename_i a b c d e
  rw [← h]
  refine (congrArg T.run (t89 a b c d e)).trans ?_
  simp only [run_ite, run_leaf, pieceP]
  cases within a.I 1 5000 <;> cases within b.I (-1) 1 <;> cases within d.I 15 300 <;> cases within e.I 1 9 <;> simp
  by_cases h0 : b.I = 0 <;> simp [h0] <;> first | rfl | (by_cases h1 : c.I = 0 <;> simp [h1])
 ·cases h
theorem ok97 (n : Nat) : FnOK C (n + 2) 97 (mkF s97 G97) := by
 refine fn_of hC (sp := sp97) (lp := lp97) ⟨ok55 n, trivial⟩ (by kernel_rfl) [] (by kernel_rfl) rfl (fun k hk => by cases hk) fun ds r h => ?_
 unfold G97 at h
 split at h
 ·rename_i a b c d e
  rw [← h]
  refine (congrArg T.run (t97 a b c d e)).trans ?_
  simp only [run_ite, run_leaf, pieceP]
  cases within a.I 1 5000 <;> cases within b.I (-1) 1 <;> cases within d.I 15 300 <;> cases within e.I 1 9 <;> cases within c.I 5 2000 <;> by_cases h0 : b.I = 0 <;> by_cases h1 : c.I = 0 <;> simp [h0, h1]
 ·cases h
theorem out_ok {G : List D → T (Ex × List D)} {μ : List D → Nat} {ds : List D} {r : Ex × List D} {X : Option Rd} (h : X = some (.out r.1 r.2)) : RdOK G μ ds r X := ⟨_, h, .inr rfl⟩
theorem again_ok {G : List D → T (Ex × List D)} {μ : List D → Nat} {ds ds' : List D} {r : Ex × List D} {X : Option Rd} (h : X = some (.again ds')) (h1 : (G ds').run = some r) (h2 : μ ds' < μ ds) : RdOK G μ ds r X := ⟨_, h, .inl ⟨_, rfl, h1, h2⟩⟩
theorem lenFrom_bound {l : List (List D)} : ∀ (k i : Nat), (∀ j, i ≤ j → j < i + k → pieceAt l j = true) → 0 ≤ lenFrom l i k ∧ lenFrom l i k ≤ 5000 * k
 | 0, _, _ => by simp [lenFrom]
 | k + 1, i, h => by
   have h1 := lenFrom_bound (l := l) k (i + 1) fun j a b => h j (by omega) (by omega)
   have h2 := h i (Nat.le_refl _) (by omega)
   simp only [pieceAt, pieceP, Bool.and_eq_true, Lite.within_iff] at h2
   obtain ⟨⟨⟨⟨h3, _⟩, _⟩, _⟩, _⟩ := h2
   simp only [lenFrom]
   omega
theorem ok19_3 (n : Nat) : LoopSim C (n + 1) 19 (loopOf C.P 19 3) (mkL l19_3 G19_3) := by
 refine loop_of hC (sp := sp19) (lp := lp19) trivial [] (by kernel_rfl) rfl (fun k hk => by cases hk) (by kernel_rfl) (fun ds => (((ds.getD 2 default).L.length : Int) - (ds.getD 1 default).I).toNat) fun ds r h => ?_
 unfold G19_3 at h
 split at h
 ·rename_i m i p c j
  obtain ⟨hp, h⟩ := need_some h
  rw [yes_iff] at hp
  obtain ⟨h1, h2, h3, h4, h5, h6⟩ := hp
  refine ⟨by rw [fuelC]; simp; omega, ?_⟩
  rw [show roundT C (mkTab sp19 lp19) 19 (loopOf C.P 19 3) l19_3 [m, i, p, c, j] = _ from t19_3 m i p c j]
  obtain ⟨k, hk⟩ : ∃ k : Nat, i.I = k := ⟨i.I.toNat, by omega⟩
  rw [hk] at h h4 h6 ⊢
  simp only [run_leaf, Int.toNat_natCast] at h
  by_cases hlt : (k : Int) < p.L.length
  ·have hb := lenFrom_bound (l := p.L) 1 k fun y _ hy => (allFrom_iff.1 h2) y (Nat.zero_le _) (by omega)
   simp only [lenFrom] at hb
   have w0 : IntKind.i64.wrap (m.I + ix (p.L.getD k []) 0) = m.I + ix (p.L.getD k []) 0 := wrap_id (by omega) (by omega)
   have w1 : IntKind.i64.wrap ((k : Int) + 1) = ((k + 1 : Nat) : Int) := wrap_succ (by omega)
   refine again_ok (ds' := [D.i (m.I + ix (p.L.getD k []) 0), D.i (k + 1 : Nat), D.l p.L, D.l c.L, D.l j.L]) ?_ ?_ ?_
   ·simp only [run_ite, run_need, run_leaf, hlt, decide_true, if_true, Int.toNat_natCast, ix_def, w0, w1, show (0 : Int) ≤ (k : Int) from by omega, and_self]
   ·refine (need_yes ⟨h1, h2, by simp only [I_i]; omega, by simp only [I_i, L_l]; omega, by simp only [I_i]; omega, by simp only [I_i]; omega⟩).trans ?_
    rw [← h, show p.L.length - k = (p.L.length - (k + 1)) + 1 by omega]
    simp only [run_leaf, I_i, L_l, Int.toNat_natCast, lenFrom, Int.add_assoc]
   ·show ((p.L.length : Int) - ((k + 1 : Nat) : Int)).toNat < ((p.L.length : Int) - i.I).toNat
    omega
  ·refine out_ok ?_
   rw [show p.L.length - k = 0 by omega] at h
   simp only [lenFrom, Int.add_zero, Option.some.injEq] at h
   simp only [run_ite, run_leaf, hlt, decide_false, Bool.false_eq_true, if_false, ← h]
 ·cases h
theorem ok19 (n : Nat) : FnOK C (n + 2) 19 (mkF s19 G19) := by
 refine fn_of hC (sp := sp19) (lp := lp19) trivial (by kernel_rfl) [3] (by kernel_rfl) (by kernel_rfl) (fun k hk L hL => by simp at hk; subst hk; cases hL; exact ok19_3 n) fun ds r h => ?_
 unfold G19 at h
 split at h
 ·rename_i p c j
  obtain ⟨hp, h⟩ := need_some h
  rw [yes_iff] at hp
  rw [← h]
  refine (congrArg T.run (t19 p c j)).trans ?_
  refine (need_yes ⟨hp.1, hp.2, by omega, by omega, by omega, by omega⟩).trans ?_
  simp only [run_leaf, lenR, Int.zero_add, Int.toNat_zero, Nat.sub_zero]
 ·cases h
theorem ok39_4 (n : Nat) : LoopSim C (n + 3) 39 (loopOf C.P 39 4) (mkL l39_4 G39_4) := by
 refine loop_of hC (sp := sp39) (lp := lp39) ⟨ok88 (n + 1 + 1), ok89 (n + 1), ok19 (n + 1), trivial⟩ [] (by kernel_rfl) rfl (fun k hk => by cases hk) (by kernel_rfl) (fun ds => (((ds.getD 1 default).L.length : Int) - (ds.getD 0 default).I).toNat) fun ds r h => ?_
 unfold G39_4 at h
 split at h
 ·rename_i i p c j
  obtain ⟨hp, h⟩ := need_some h
  rw [yes_iff] at hp
  obtain ⟨h1, h2, h3⟩ := hp
  refine ⟨by rw [fuelC]; simp; omega, ?_⟩
  rw [show roundT C (mkTab sp39 lp39) 39 (loopOf C.P 39 4) l39_4 [i, p, c, j] = _ from t39_4 i p c j]
  obtain ⟨k, hk⟩ : ∃ k : Nat, i.I = k := ⟨i.I.toNat, by omega⟩
  simp only [run_ite, run_need, run_leaf, hk, Int.toNat_natCast] at h h3 ⊢
  refine all_loop (p := pieceAt p.L) (i := k) (len := p.L.length) [D.i (k + 1 : Nat), D.l p.L, D.l c.L, D.l j.L] h ?_ ?_
  ·simp only [pieceAt, ix_def, wrap_succ (show k < 9223372036854775807 by omega)]
   grind
  ·intro hlt hp hh
   refine ⟨Eq.trans (need_yes (p := _) (t := _) ?_) hh, ?_⟩
   ·simp only [I_i, L_l]
    exact ⟨h1, by omega, by omega⟩
   ·show ((p.L.length : Int) - ((k + 1 : Nat) : Int)).toNat < ((p.L.length : Int) - i.I).toNat
    omega
 ·cases h
theorem ok39_10 (n : Nat) : LoopSim C (n + 3) 39 (loopOf C.P 39 10) (mkL l39_10 G39_10) := by
 refine loop_of hC (sp := sp39) (lp := lp39) ⟨ok88 (n + 1 + 1), ok89 (n + 1), ok19 (n + 1), trivial⟩ [] (by kernel_rfl) rfl (fun k hk => by cases hk) (by kernel_rfl) (fun ds => (((ds.getD 3 default).L.length : Int) - (ds.getD 1 default).I).toNat) fun ds r h => ?_
 unfold G39_10 at h
 split at h
 ·rename_i m i p c j
  obtain ⟨hp, h⟩ := need_some h
  rw [yes_iff] at hp
  obtain ⟨h1, h2, h3⟩ := hp
  refine ⟨by rw [fuelC]; simp; omega, ?_⟩
  rw [show roundT C (mkTab sp39 lp39) 39 (loopOf C.P 39 10) l39_10 [m, i, p, c, j] = _ from t39_10 m i p c j]
  obtain ⟨k, hk⟩ : ∃ k : Nat, i.I = k := ⟨i.I.toNat, by omega⟩
  simp only [run_ite, run_need, run_leaf, hk, Int.toNat_natCast] at h h3 ⊢
  refine all_loop (p := crestAt m.I c.L) (i := k) (len := c.L.length) [D.i m.I, D.i (k + 1 : Nat), D.l p.L, D.l c.L, D.l j.L] h ?_ ?_
  ·simp only [crestAt, riseAt, ix_def, Nat.zero_add, wrap_succ (show k < 9223372036854775807 by omega), wrap_pred (show k < 9223372036854775807 by omega), toNat_pred]
   grind
  ·intro hlt hp hh
   refine ⟨Eq.trans (need_yes (p := _) (t := _) ?_) hh, ?_⟩
   ·simp only [I_i, L_l]
    exact ⟨h1, by omega, by omega⟩
   ·show ((c.L.length : Int) - ((k + 1 : Nat) : Int)).toNat < ((c.L.length : Int) - i.I).toNat
    omega
 ·cases h
theorem ok39_16 (n : Nat) : LoopSim C (n + 3) 39 (loopOf C.P 39 16) (mkL l39_16 G39_16) := by
 refine loop_of hC (sp := sp39) (lp := lp39) ⟨ok88 (n + 1 + 1), ok89 (n + 1), ok19 (n + 1), trivial⟩ [] (by kernel_rfl) rfl (fun k hk => by cases hk) (by kernel_rfl) (fun ds => (((ds.getD 4 default).L.length : Int) - (ds.getD 1 default).I).toNat) fun ds r h => ?_
 unfold G39_16 at h
 split at h
 ·rename_i m i p c j
  obtain ⟨hp, h⟩ := need_some h
  rw [yes_iff] at hp
  obtain ⟨h1, h2, h3⟩ := hp
  refine ⟨by rw [fuelC]; simp; omega, ?_⟩
  rw [show roundT C (mkTab sp39 lp39) 39 (loopOf C.P 39 16) l39_16 [m, i, p, c, j] = _ from t39_16 m i p c j]
  obtain ⟨k, hk⟩ : ∃ k : Nat, i.I = k := ⟨i.I.toNat, by omega⟩
  simp only [run_ite, run_need, run_leaf, hk, Int.toNat_natCast] at h h3 ⊢
  refine all_loop (p := juncAt m.I j.L) (i := k) (len := j.L.length) [D.i m.I, D.i (k + 1 : Nat), D.l p.L, D.l c.L, D.l j.L] h ?_ ?_
  ·simp only [juncAt, riseAt, ix_def, Nat.zero_add, wrap_succ (show k < 9223372036854775807 by omega), wrap_pred (show k < 9223372036854775807 by omega), toNat_pred]
   grind
  ·intro hlt hp hh
   refine ⟨Eq.trans (need_yes (p := _) (t := _) ?_) hh, ?_⟩
   ·simp only [I_i, L_l]
    exact ⟨h1, by omega, by omega⟩
   ·show ((j.L.length : Int) - ((k + 1 : Nat) : Int)).toNat < ((j.L.length : Int) - i.I).toNat
    omega
 ·cases h
theorem ok51_14 (n : Nat) : LoopSim C (n + 3) 51 (loopOf C.P 51 14) (mkL l51_14 G51_14) := by
 refine loop_of hC (sp := sp51) (lp := lp51) ⟨ok55 (n + 1 + 1), ok97 (n + 1), trivial⟩ [] (by kernel_rfl) rfl (fun k hk => by cases hk) (by kernel_rfl) (fun ds => ((ds.getD 2 default).I - (ds.getD 3 default).I).toNat) fun ds r h => ?_
 unfold G51_14 at h
 split at h
 ·rename_i x q m i p c j
  obtain ⟨hp, h⟩ := need_some h
  rw [yes_iff] at hp
  obtain ⟨h1, h2, h3, h4, h5⟩ := hp
  refine ⟨by rw [fuelC]; simp; omega, ?_⟩
  rw [show roundT C (mkTab sp51 lp51) 51 (loopOf C.P 51 14) l51_14 [x, q, m, i, p, c, j] = _ from t51_14 x q m i p c j]
  obtain ⟨k, hk⟩ : ∃ k : Nat, i.I = k := ⟨i.I.toNat, by omega⟩
  simp only [run_ite, run_need, run_leaf, hk, h1, h2, Int.toNat_natCast] at h h4 h5 ⊢
  refine all_loop (p := crestAt x.I c.L) (i := k) (len := c.L.length) [D.i x.I, D.l c.L, D.i c.L.length, D.i (k + 1 : Nat), D.l p.L, D.l c.L, D.l j.L] h ?_ ?_
  ·simp only [crestAt, riseAt, ix_def, Nat.zero_add, wrap_succ (show k < 9223372036854775807 by omega), wrap_pred (show k < 9223372036854775807 by omega), toNat_pred]
   grind
  ·intro hlt hp hh
   refine ⟨Eq.trans (need_yes (p := _) (t := _) ?_) hh, ?_⟩
   ·simp only [I_i, L_l]
    exact ⟨trivial, trivial, by omega, by omega, h5⟩
   ·show ((c.L.length : Int) - ((k + 1 : Nat) : Int)).toNat < (m.I - i.I).toNat
    omega
 ·cases h
theorem ok51_20 (n : Nat) : LoopSim C (n + 3) 51 (loopOf C.P 51 20) (mkL l51_20 G51_20) := by
 refine loop_of hC (sp := sp51) (lp := lp51) ⟨ok55 (n + 1 + 1), ok97 (n + 1), trivial⟩ [] (by kernel_rfl) rfl (fun k hk => by cases hk) (by kernel_rfl) (fun ds => ((ds.getD 2 default).I - (ds.getD 3 default).I).toNat) fun ds r h => ?_
 unfold G51_20 at h
 split at h
 ·rename_i x q m i p c j
  obtain ⟨hp, h⟩ := need_some h
  rw [yes_iff] at hp
  obtain ⟨h1, h2, h3, h4, h5⟩ := hp
  refine ⟨by rw [fuelC]; simp; omega, ?_⟩
  rw [show roundT C (mkTab sp51 lp51) 51 (loopOf C.P 51 20) l51_20 [x, q, m, i, p, c, j] = _ from t51_20 x q m i p c j]
  obtain ⟨k, hk⟩ : ∃ k : Nat, i.I = k := ⟨i.I.toNat, by omega⟩
  simp only [run_ite, run_need, run_leaf, hk, h1, h2, Int.toNat_natCast] at h h4 h5 ⊢
  refine all_loop (p := juncAt x.I j.L) (i := k) (len := j.L.length) [D.i x.I, D.l j.L, D.i j.L.length, D.i (k + 1 : Nat), D.l p.L, D.l c.L, D.l j.L] h ?_ ?_
  ·simp only [juncAt, riseAt, ix_def, Nat.zero_add, wrap_succ (show k < 9223372036854775807 by omega), wrap_pred (show k < 9223372036854775807 by omega), toNat_pred]
   grind
  ·intro hlt hp hh
   refine ⟨Eq.trans (need_yes (p := _) (t := _) ?_) hh, ?_⟩
   ·simp only [I_i, L_l]
    exact ⟨trivial, trivial, by omega, by omega, h5⟩
   ·show ((j.L.length : Int) - ((k + 1 : Nat) : Int)).toNat < (m.I - i.I).toNat
    omega
 ·cases h
theorem ok39 (n : Nat) : FnOK C (n + 4) 39 (mkF s39 G39) := by
 refine fn_of hC (sp := sp39) (lp := lp39) ⟨ok88 (n + 1 + 1), ok89 (n + 1), ok19 (n + 1), trivial⟩ (by kernel_rfl) [4, 10, 16] (by kernel_rfl) (by kernel_rfl) (fun k hk L hL => by simp at hk; rcases hk with hk | hk | hk <;> subst hk <;> cases hL; exact ok39_4 n; exact ok39_10 n; exact ok39_16 n) fun ds r h => ?_
 unfold G39 at h
 split at h
 ·rename_i p c j
  rw [← h]
  refine (congrArg T.run (t39 p c j)).trans ?_
  simp only [run_ite, run_need, run_leaf, yes_iff, roadOk, sizesOk, Int.toNat_zero, Nat.sub_zero]
  by_cases a1 : within (p.L.length : Int) 1 2000 = true
  case neg => simp [a1]
  have a0 := Lite.within_iff.1 a1
  by_cases a2 : c.L.length ≤ 1000
  case neg => simp [a1, a2, show (c.L.length : Int) > 1000 by omega]
  by_cases a3 : j.L.length ≤ 200
  case neg => simp [a1, a2, a3, show ¬ (c.L.length : Int) > 1000 by omega, show (j.L.length : Int) > 200 by omega]
  by_cases a4 : allFrom (pieceAt p.L) 0 p.L.length = true
  case neg => simp [a1, a2, a3, a4, show ¬ (c.L.length : Int) > 1000 by omega, show ¬ (j.L.length : Int) > 200 by omega, show p.L.length ≤ 2000 by omega]
  simp [a1, a2, a3, a4, show ¬ (c.L.length : Int) > 1000 by omega, show ¬ (j.L.length : Int) > 200 by omega, show p.L.length ≤ 2000 by omega]
  cases allFrom (crestAt (lenR p.L) c.L) 0 c.L.length <;> cases allFrom (juncAt (lenR p.L) j.L) 0 j.L.length <;> simp
 ·cases h
theorem ok51_5 (n : Nat) : LoopSim C (n + 3) 51 (loopOf C.P 51 5) (mkL l51_5 G51_5) := by
 refine loop_of hC (sp := sp51) (lp := lp51) ⟨ok55 (n + 1 + 1), ok97 (n + 1), trivial⟩ [] (by kernel_rfl) rfl (fun k hk => by cases hk) (by kernel_rfl) (fun ds => ((ds.getD 2 default).I - (ds.getD 3 default).I).toNat) fun ds r h => ?_
 unfold G51_5 at h
 split at h
 ·rename_i x q m i p c j
  obtain ⟨hp, h⟩ := need_some h
  rw [yes_iff] at hp
  obtain ⟨h1, h2, h3, h4, h5, h6, h7⟩ := hp
  refine ⟨by rw [fuelC]; simp; omega, ?_⟩
  rw [show roundT C (mkTab sp51 lp51) 51 (loopOf C.P 51 5) l51_5 [x, q, m, i, p, c, j] = _ from t51_5 x q m i p c j]
  obtain ⟨k, hk⟩ : ∃ k : Nat, i.I = k := ⟨i.I.toNat, by omega⟩
  simp only [run_ite, run_need, run_leaf, hk, h1, h2, Int.toNat_natCast] at h h4 h5 h7 ⊢
  by_cases hlt : (k : Int) < p.L.length
  ·rw [show p.L.length - k = (p.L.length - (k + 1)) + 1 by omega] at h
   by_cases hp : pieceAt p.L k = true
   ·have hb := lenFrom_bound (l := p.L) 1 k fun y a b => by rw [show y = k by omega]; exact hp
    simp only [lenFrom] at hb
    have w0 : IntKind.i64.wrap (x.I + ix (p.L.getD k []) 0) = x.I + ix (p.L.getD k []) 0 := wrap_id (by omega) (by omega)
    have w1 : IntKind.i64.wrap ((k : Int) + 1) = ((k + 1 : Nat) : Int) := wrap_succ (by omega)
    have hp' := hp
    simp only [pieceAt] at hp'
    simp only [allFrom, hp, Bool.true_and, lenFrom] at h
    refine again_ok (ds' := [D.i (x.I + ix (p.L.getD k []) 0), D.l p.L, D.i p.L.length, D.i (k + 1 : Nat), D.l p.L, D.l c.L, D.l j.L]) ?_ ?_ ?_
    ·simp only [ix_def, Nat.zero_add, Nat.reduceAdd, hlt, decide_true, if_true, hp', Bool.not_true, Bool.false_eq_true, if_false, w0, w1, show (0 : Int) ≤ (k : Int) from by omega, and_self]
    ·refine (need_yes ⟨by simp only [L_l], by simp only [I_i, L_l], by simp only [I_i]; omega, by simp only [I_i]; omega, by simp only [I_i]; omega, by simp only [I_i]; omega, by simp only [I_i]; omega⟩).trans ?_
     rw [← h]
     simp only [run_ite, run_leaf, I_i, L_l, Int.toNat_natCast, Int.add_assoc]
    ·show ((p.L.length : Int) - ((k + 1 : Nat) : Int)).toNat < (m.I - i.I).toNat
     omega
   ·refine out_ok ?_
    have hp' := hp
    simp only [pieceAt] at hp'
    simp only [allFrom, hp, Bool.false_and, Bool.false_eq_true, if_false, Option.some.injEq] at h
    simp only [ix_def, Nat.zero_add, Nat.reduceAdd, hlt, decide_true, if_true, hp', Bool.not_false, show (0 : Int) ≤ (k : Int) from by omega, and_self, ← h]
  ·refine out_ok ?_
   rw [show p.L.length - k = 0 by omega] at h
   simp only [allFrom, lenFrom, Int.add_zero, if_true, Option.some.injEq] at h
   simp only [hlt, decide_false, Bool.false_eq_true, if_false, ← h]
 ·cases h
theorem ok51 (n : Nat) : FnOK C (n + 4) 51 (mkF s51 G51) := by
 refine fn_of hC (sp := sp51) (lp := lp51) ⟨ok55 (n + 1 + 1), ok97 (n + 1), trivial⟩ (by kernel_rfl) [5, 14, 20] (by kernel_rfl) (by kernel_rfl) (fun k hk L hL => by simp at hk; rcases hk with hk | hk | hk <;> subst hk <;> cases hL; exact ok51_5 n; exact ok51_14 n; exact ok51_20 n) fun ds r h => ?_
 unfold G51 at h
 split at h
 ·rename_i p c j
  rw [← h]
  refine (congrArg T.run (t51 p c j)).trans ?_
  simp only [run_ite, run_need, run_leaf, yes_iff, roadOk, sizesOk, Int.toNat_zero, Nat.sub_zero, Int.zero_add]
  by_cases a1 : within (p.L.length : Int) 1 2000 = true
  case neg => simp [a1]
  have a0 := Lite.within_iff.1 a1
  by_cases a2 : c.L.length ≤ 1000
  case neg => simp [a1, a2, show (c.L.length : Int) > 1000 by omega]
  by_cases a3 : j.L.length ≤ 200
  case neg => simp [a1, a2, a3, show ¬ (c.L.length : Int) > 1000 by omega, show (j.L.length : Int) > 200 by omega]
  by_cases a4 : allFrom (pieceAt p.L) 0 p.L.length = true
  case neg => simp [a1, a2, a3, a4, show ¬ (c.L.length : Int) > 1000 by omega, show ¬ (j.L.length : Int) > 200 by omega, show (p.L.length : Int) ≤ 2000 by omega]
  by_cases a5 : lenR p.L ≤ 100000
  case neg => simp [a1, a2, a3, a4, a5, show lenFrom p.L 0 p.L.length = lenR p.L from rfl, show ¬ (c.L.length : Int) > 1000 by omega, show ¬ (j.L.length : Int) > 200 by omega, show (p.L.length : Int) ≤ 2000 by omega, show lenR p.L > 100000 by omega]
  simp [a1, a2, a3, a4, a5, show lenFrom p.L 0 p.L.length = lenR p.L from rfl, show ¬ (c.L.length : Int) > 1000 by omega, show ¬ (j.L.length : Int) > 200 by omega, show (p.L.length : Int) ≤ 2000 by omega, show ¬ lenR p.L > 100000 by omega, show (c.L.length : Int) ≤ 1000 by omega, show (j.L.length : Int) ≤ 200 by omega]
  cases allFrom (crestAt (lenR p.L) c.L) 0 c.L.length <;> cases allFrom (juncAt (lenR p.L) j.L) 0 j.L.length <;> simp
 ·cases h
noncomputable def sp52 : SpL := []
noncomputable def lp52 : LpL := [(4, mkL l52_4 G52_4)]
noncomputable def sw52 : SwL := []
noncomputable def tab52 : Tab := mkTab sp52 lp52 sw52
noncomputable def sp53 : SpL := []
noncomputable def lp53 : LpL := []
noncomputable def sw53 : SwL := []
noncomputable def tab53 : Tab := mkTab sp53 lp53 sw53
set_option linter.unusedVariables false
set_option maxRecDepth 100000
theorem t52 (a b c : D) : fnTW C tab52 52 s52 [a, b, c] =
 T.need (yes ((↑0 : Int) = (0 : Int) ∧ (0 : Int) = (0 : Int) ∧ a.L = a.L ∧ (a.L.length : Int) = (a.L.length : Int) ∧ (0 : Int) = (0 : Int) ∧ manyP a.L)) (T.need true (T.ite false (T.leaf [D.l a.L, D.l b.L, D.l c.L, D.i (↑(Int.toNat (a.L.length : Int)) : Int), D.l (begs a.L 0 a.L.length (0 : Int))]) (T.need (decide (Int.toNat (a.L.length : Int) ≤ List.length (begs a.L 0 a.L.length (0 : Int)) ∧ Int.toNat (a.L.length : Int) + 1 ≤ 2 ^ 62 ∧ (Int.toNat (a.L.length : Int) + 1) * Try.prog.types[3].bytes ≤ 2 ^ 47)) (T.leaf [D.l a.L, D.l b.L, D.l c.L, D.i (↑(Int.toNat (a.L.length : Int) + 1) : Int), D.l (List.take (Int.toNat (a.L.length : Int)) (begs a.L 0 a.L.length (0 : Int)) ++ List.take (List.length [[D.i (lenR a.L)]]) [[D.i (lenR a.L)]])])))) := by kernel_rfl
theorem t52_4_0 (a b c d e f g : D) : roundT C tab52 52 (loopOf C.P 52 4) l52_4 [.i 0, a, b, c, d, e, f, g] =
 T.ite (decide (d.I < c.I)) (T.need (decide ((0 : Int) ≤ d.I ∧ d.I < (b.L.length : Int))) (T.need true (T.ite false (T.leaf (Rd.again [D.i 0, D.i (IntKind.i64.wrap (a.I + D.I (List.getD (List.getD b.L d.I.toNat []) 0 default))), D.l b.L, D.i c.I, D.i (IntKind.i64.wrap (d.I + (1 : Int))), D.l e.L, D.l f.L, D.l g.L])) (T.need true (T.leaf (Rd.again [D.i 1, D.i (IntKind.i64.wrap (a.I + D.I (List.getD (List.getD b.L d.I.toNat []) 0 default))), D.l b.L, D.i c.I, D.i (IntKind.i64.wrap (d.I + (1 : Int))), D.l e.L, D.l f.L, D.l g.L, D.i 1, D.l [[D.i a.I]]])))))) (T.leaf (Rd.out (Ex.exit 0) [D.i 0, D.i a.I, D.l e.L, D.l f.L, D.l g.L])) := by kernel_rfl
theorem t52_4_1 (a b c d e f g h i : D) : roundT C tab52 52 (loopOf C.P 52 4) l52_4 [.i 1, a, b, c, d, e, f, g, h, i] =
 T.ite (decide (d.I < c.I)) (T.need (decide ((0 : Int) ≤ d.I ∧ d.I < (b.L.length : Int))) (T.need true (T.ite false (T.leaf (Rd.again [D.i 1, D.i (IntKind.i64.wrap (a.I + D.I (List.getD (List.getD b.L d.I.toNat []) 0 default))), D.l b.L, D.i c.I, D.i (IntKind.i64.wrap (d.I + (1 : Int))), D.l e.L, D.l f.L, D.l g.L, D.i (h.I.toNat : Int), D.l i.L])) (T.need (decide (h.I.toNat ≤ i.L.length ∧ h.I.toNat + 1 ≤ 2 ^ 62 ∧ (h.I.toNat + 1) * Try.prog.types[3].bytes ≤ 2 ^ 47)) (T.leaf (Rd.again [D.i 1, D.i (IntKind.i64.wrap (a.I + D.I (List.getD (List.getD b.L d.I.toNat []) 0 default))), D.l b.L, D.i c.I, D.i (IntKind.i64.wrap (d.I + (1 : Int))), D.l e.L, D.l f.L, D.l g.L, D.i (↑(h.I.toNat + 1) : Int), D.l (List.take h.I.toNat i.L ++ List.take (List.length [[D.i a.I]]) [[D.i a.I]])])))))) (T.leaf (Rd.out (Ex.exit 0) [D.i 1, D.i a.I, D.l e.L, D.l f.L, D.l g.L, D.i (h.I.toNat : Int), D.l i.L])) := by kernel_rfl
theorem t53 (a b c d : D) : fnT C tab53 53 s53 [a, b, c, d] =
 T.need (decide ((0 : Int) ≤ (a.L.length : Int) ∧ (a.L.length : Int) < (d.L.length : Int))) (T.leaf [D.i (D.I (List.getD (List.getD d.L (Int.toNat (a.L.length : Int)) []) 0 default))]) := by kernel_rfl
theorem begs_length (l : List (List D)) : ∀ (k i : Nat) (n : Int), (begs l i k n).length = k
 | 0, _, _ => rfl
 | k + 1, i, n => by simp only [begs, List.length_cons, begs_length l k]
theorem begR_length (l : List (List D)) : (begR l).length = l.length + 1 := by simp [begR, begs_length]
theorem ok53 (n : Nat) : FnOK C (n + 1) 53 (mkF s53 G53) := by
 refine fn_of hC (sp := sp53) (lp := lp53) trivial (by kernel_rfl) [] (by kernel_rfl) rfl (fun k hk => by cases hk) fun ds r h => ?_
 unfold G53 at h
 split at h
 ·rename_i p c j b
  obtain ⟨hp, h⟩ := need_some h
  rw [yes_iff] at hp
  rw [← h]
  refine (congrArg T.run (t53 p c j b)).trans ?_
  have hl : b.L.length = p.L.length + 1 := by rw [hp.2, begR_length]
  simp only [run_need, run_leaf, ix_def, Int.toNat_natCast, show (0 : Int) ≤ (p.L.length : Int) ∧ (p.L.length : Int) < (b.L.length : Int) from by omega, and_self, decide_true, if_true]
 ·cases h
noncomputable section
end
section
variable {dry wet wl : List (List D)} {loss : Int}
end
theorem piece_rng {l : List (List D)} (h : allFrom (pieceAt l) 0 l.length = true) {k : Nat} (hk : k < l.length) : (1 ≤ ix (l.getD k []) 0 ∧ ix (l.getD k []) 0 ≤ 5000) ∧ 1 ≤ ix (l.getD k []) 4 ∧ ix (l.getD k []) 4 ≤ 9 := by
 have := allFrom_iff.1 h k (Nat.zero_le _) (by omega)
 simp only [pieceAt, pieceP, Bool.and_eq_true, Lite.within_iff] at this
 exact ⟨this.1.1.1.1, this.1.2⟩
theorem lenFrom_add (l : List (List D)) : ∀ (j k i : Nat), lenFrom l i (j + k) = lenFrom l i j + lenFrom l (i + j) k
 | 0, k, i => by simp [lenFrom]
 | j + 1, k, i => by
   rw [show j + 1 + k = (j + k) + 1 by omega]
   simp only [lenFrom]
   rw [lenFrom_add l j k (i + 1), show i + 1 + j = i + (j + 1) by omega]
   omega
theorem lenFrom_pos {l : List (List D)} : ∀ (k i : Nat), (∀ j, i ≤ j → j < i + k → 0 ≤ ix (l.getD j []) 0) → 0 ≤ lenFrom l i k
 | 0, _, _ => by simp [lenFrom]
 | k + 1, i, h => by
   have h1 := lenFrom_pos (l := l) k (i + 1) fun j a b => h j (by omega) (by omega)
   have h2 := h i (Nat.le_refl _) (by omega)
   simp only [lenFrom]
   omega
noncomputable section
def G56 (ds : List D) : T (List D) := match ds with
 | [l] => .need (yes (l.L ≠ [] ∧ l.L.length ≤ 1073741824)) (.leaf [.i l.L.length, .l l.L])
 | _ => .fail
def revL (can : List D → List D) : Nat → Nat → Nat → List (List D) → List (List D)
 | 0, _, _, r => r
 | h + 1, i, j, r => revL can h (i + 1) (j - 1) ((r.set i (can (r.getD j []))).set j (can (r.getD i [])))
def can5 (x : List D) : List D := [.i (ix x 0), .i (ix x 1), .i (ix x 2), .i (ix x 3), .i (ix x 4)]
def can2 (x : List D) : List D := [.i (ix x 0), .i (ix x 1)]
def can3 (x : List D) : List D := [.i (ix x 0), .i (ix x 1), .i (ix x 2)]
def revR (can : List D → List D) (r : List (List D)) : List (List D) := revL can (r.length / 2) 0 (r.length - 1) r
def Grev (can : List D → List D) (ds : List D) : T (List D) := match ds with
 | [n, r] => .need (yes (1 ≤ r.L.length ∧ r.L.length ≤ 2000 ∧ n.I = r.L.length)) (.leaf [.l (revR can r.L)])
 | _ => .fail
def Grev_1 (can : List D → List D) (ds : List D) : T (Ex × List D) := match ds with
 | [n, i, j, r] => .need (yes (r.L.length ≤ 2000 ∧ n.I = r.L.length ∧ 0 ≤ i.I ∧ 0 ≤ j.I ∧ j.I < r.L.length ∧ i.I ≤ j.I + 1)) (.leaf (.exit 0, [.l (revL can ((j.I - i.I + 1).toNat / 2) i.I.toNat j.I.toNat r.L)]))
 | _ => .fail
def G59 : List D → T (List D) := Grev can5
def G59_1 : List D → T (Ex × List D) := Grev_1 can5
def G60 : List D → T (List D) := Grev can2
def G60_1 : List D → T (Ex × List D) := Grev_1 can2
def G61 : List D → T (List D) := Grev can3
def G61_1 : List D → T (Ex × List D) := Grev_1 can3
def G1060 (ds : List D) : T (List D) := match ds with
 | [] => .leaf []
 | _ => .fail
def G1060_1 (ds : List D) : T (Ex × List D) := match ds with
 | [i, j] => .need (yes (j.I ≤ i.I)) (.leaf (.exit 0, []))
 | _ => .fail
def G1061 : List D → T (List D) := G1060
def G1061_1 : List D → T (Ex × List D) := G1060_1
end
noncomputable def sp56 : SpL := []
noncomputable def lp56 : LpL := []
noncomputable def sw56 : SwL := []
noncomputable def tab56 : Tab := mkTab sp56 lp56 sw56
noncomputable def sp57 : SpL := []
noncomputable def lp57 : LpL := []
noncomputable def sw57 : SwL := []
noncomputable def tab57 : Tab := mkTab sp57 lp57 sw57
noncomputable def sp58 : SpL := []
noncomputable def lp58 : LpL := []
noncomputable def sw58 : SwL := []
noncomputable def tab58 : Tab := mkTab sp58 lp58 sw58
noncomputable def sp59 : SpL := []
noncomputable def lp59 : LpL := [(1, mkLK 1 l59_1 G59_1)]
noncomputable def sw59 : SwL := []
noncomputable def tab59 : Tab := mkTab sp59 lp59 sw59
noncomputable def sp60 : SpL := []
noncomputable def lp60 : LpL := [(1, mkLK 1 l60_1 G60_1)]
noncomputable def sw60 : SwL := []
noncomputable def tab60 : Tab := mkTab sp60 lp60 sw60
noncomputable def sp61 : SpL := []
noncomputable def lp61 : LpL := [(1, mkLK 1 l61_1 G61_1)]
noncomputable def sw61 : SwL := []
noncomputable def tab61 : Tab := mkTab sp61 lp61 sw61
noncomputable def sp1060 : SpL := []
noncomputable def lp1060 : LpL := [(1, mkL l1060_1 G1060_1)]
noncomputable def sw1060 : SwL := []
noncomputable def tab1060 : Tab := mkTab sp1060 lp1060 sw1060
noncomputable def sp1061 : SpL := []
noncomputable def lp1061 : LpL := [(1, mkL l1061_1 G1061_1)]
noncomputable def sw1061 : SwL := []
noncomputable def tab1061 : Tab := mkTab sp1061 lp1061 sw1061
set_option linter.unusedVariables false
set_option maxRecDepth 100000
theorem t56 (a : D) : fnT C tab56 56 s56 [a] =
 T.need (!List.isEmpty a.L) (T.ite (List.isEmpty a.L) T.fail (T.need (decide (a.L.length ≤ 2 ^ 62 ∧ a.L.length * Try.prog.types[51].bytes ≤ 2 ^ 47)) (T.leaf [D.i (a.L.length : Int), D.l a.L]))) := by kernel_rfl
theorem t57 (a : D) : fnT C tab57 57 s57 [a] =
 T.need (!List.isEmpty a.L) (T.ite (List.isEmpty a.L) (T.leaf [D.i 1]) (T.need (decide (a.L.length ≤ 2 ^ 62 ∧ a.L.length * Try.prog.types[121].bytes ≤ 2 ^ 47)) (T.leaf [D.i 0, D.i (a.L.length : Int), D.l a.L]))) := by kernel_rfl
theorem t58 (a : D) : fnT C tab58 58 s58 [a] =
 T.need (!List.isEmpty a.L) (T.ite (List.isEmpty a.L) (T.leaf [D.i 1]) (T.need (decide (a.L.length ≤ 2 ^ 62 ∧ a.L.length * Try.prog.types[123].bytes ≤ 2 ^ 47)) (T.leaf [D.i 0, D.i (a.L.length : Int), D.l a.L]))) := by kernel_rfl
theorem t59 (a b : D) : fnTW C tab59 59 s59 [a, b] =
 T.need (yes (b.L.length ≤ 2000 ∧ (a.I.toNat : Int) = (b.L.length : Int) ∧ (0 : Int) ≤ (0 : Int) ∧ (0 : Int) ≤ IntKind.i64.wrap ((a.I.toNat : Int) - (1 : Int)) ∧ IntKind.i64.wrap ((a.I.toNat : Int) - (1 : Int)) < (b.L.length : Int) ∧ (0 : Int) ≤ IntKind.i64.wrap ((a.I.toNat : Int) - (1 : Int)) + (1 : Int))) (T.leaf [D.l (revL can5 (Int.toNat (IntKind.i64.wrap ((a.I.toNat : Int) - (1 : Int)) - (0 : Int) + (1 : Int)) / 2) (Int.toNat (0 : Int)) (Int.toNat (IntKind.i64.wrap ((a.I.toNat : Int) - (1 : Int)))) b.L)]) := by kernel_rfl
theorem t59_1 (a b c d : D) : roundTK C tab59 59 (loopOf C.P 59 1) 1 l59_1 [a, b, c, d] =
 T.ite (decide (b.I < c.I)) (T.need (decide ((0 : Int) ≤ c.I ∧ c.I < (a.I.toNat : Int))) (T.need (decide (c.I.toNat < d.L.length)) (T.need (decide ((0 : Int) ≤ b.I ∧ b.I < (a.I.toNat : Int))) (T.need (decide (b.I.toNat < d.L.length)) (T.need (decide ((0 : Int) ≤ b.I ∧ b.I < (a.I.toNat : Int))) (T.need (decide (b.I.toNat < d.L.length)) (T.need (decide ((0 : Int) ≤ c.I ∧ c.I < (a.I.toNat : Int))) (T.need (decide (c.I.toNat < List.length (List.set d.L b.I.toNat (updC (List.getD d.L b.I.toNat []) [D.i (D.I (List.getD (List.getD d.L c.I.toNat []) 0 default)), D.i (D.I (List.getD (List.getD d.L c.I.toNat []) (0 + 1) default)), D.i (D.I (List.getD (List.getD d.L c.I.toNat []) (0 + 1 + 1) default)), D.i (D.I (List.getD (List.getD d.L c.I.toNat []) (0 + 1 + 1 + 1) default)), D.i (D.I (List.getD (List.getD d.L c.I.toNat []) (0 + 1 + 1 + 1 + 1) default))] 0 0 (List.length [K.int IntKind.i64, K.int IntKind.i64, K.int IntKind.i64, K.int IntKind.i64, K.int IntKind.i64]))))) (T.leaf (Rd.again [D.i (a.I.toNat : Int), D.i (IntKind.i64.wrap (b.I + (1 : Int))), D.i (IntKind.i64.wrap (c.I - (1 : Int))), D.l (List.set (List.set d.L b.I.toNat (updC (List.getD d.L b.I.toNat []) [D.i (D.I (List.getD (List.getD d.L c.I.toNat []) 0 default)), D.i (D.I (List.getD (List.getD d.L c.I.toNat []) (0 + 1) default)), D.i (D.I (List.getD (List.getD d.L c.I.toNat []) (0 + 1 + 1) default)), D.i (D.I (List.getD (List.getD d.L c.I.toNat []) (0 + 1 + 1 + 1) default)), D.i (D.I (List.getD (List.getD d.L c.I.toNat []) (0 + 1 + 1 + 1 + 1) default))] 0 0 (List.length [K.int IntKind.i64, K.int IntKind.i64, K.int IntKind.i64, K.int IntKind.i64, K.int IntKind.i64]))) c.I.toNat (updC (List.getD (List.set d.L b.I.toNat (updC (List.getD d.L b.I.toNat []) [D.i (D.I (List.getD (List.getD d.L c.I.toNat []) 0 default)), D.i (D.I (List.getD (List.getD d.L c.I.toNat []) (0 + 1) default)), D.i (D.I (List.getD (List.getD d.L c.I.toNat []) (0 + 1 + 1) default)), D.i (D.I (List.getD (List.getD d.L c.I.toNat []) (0 + 1 + 1 + 1) default)), D.i (D.I (List.getD (List.getD d.L c.I.toNat []) (0 + 1 + 1 + 1 + 1) default))] 0 0 (List.length [K.int IntKind.i64, K.int IntKind.i64, K.int IntKind.i64, K.int IntKind.i64, K.int IntKind.i64]))) c.I.toNat []) [D.i (D.I (List.getD (List.getD d.L b.I.toNat []) 0 default)), D.i (D.I (List.getD (List.getD d.L b.I.toNat []) (0 + 1) default)), D.i (D.I (List.getD (List.getD d.L b.I.toNat []) (0 + 1 + 1) default)), D.i (D.I (List.getD (List.getD d.L b.I.toNat []) (0 + 1 + 1 + 1) default)), D.i (D.I (List.getD (List.getD d.L b.I.toNat []) (0 + 1 + 1 + 1 + 1) default))] 0 0 (List.length [K.int IntKind.i64, K.int IntKind.i64, K.int IntKind.i64, K.int IntKind.i64, K.int IntKind.i64])))])))))))))) (T.leaf (Rd.out (Ex.exit 0) [D.l d.L])) := by kernel_rfl
theorem t60 (a b : D) : fnTW C tab60 60 s60 [a, b] =
 T.need (yes (b.L.length ≤ 2000 ∧ (a.I.toNat : Int) = (b.L.length : Int) ∧ (0 : Int) ≤ (0 : Int) ∧ (0 : Int) ≤ IntKind.i64.wrap ((a.I.toNat : Int) - (1 : Int)) ∧ IntKind.i64.wrap ((a.I.toNat : Int) - (1 : Int)) < (b.L.length : Int) ∧ (0 : Int) ≤ IntKind.i64.wrap ((a.I.toNat : Int) - (1 : Int)) + (1 : Int))) (T.leaf [D.l (revL can2 (Int.toNat (IntKind.i64.wrap ((a.I.toNat : Int) - (1 : Int)) - (0 : Int) + (1 : Int)) / 2) (Int.toNat (0 : Int)) (Int.toNat (IntKind.i64.wrap ((a.I.toNat : Int) - (1 : Int)))) b.L)]) := by kernel_rfl
theorem t60_1 (a b c d : D) : roundTK C tab60 60 (loopOf C.P 60 1) 1 l60_1 [a, b, c, d] =
 T.ite (decide (b.I < c.I)) (T.need (decide ((0 : Int) ≤ c.I ∧ c.I < (a.I.toNat : Int))) (T.need (decide (c.I.toNat < d.L.length)) (T.need (decide ((0 : Int) ≤ b.I ∧ b.I < (a.I.toNat : Int))) (T.need (decide (b.I.toNat < d.L.length)) (T.need (decide ((0 : Int) ≤ b.I ∧ b.I < (a.I.toNat : Int))) (T.need (decide (b.I.toNat < d.L.length)) (T.need (decide ((0 : Int) ≤ c.I ∧ c.I < (a.I.toNat : Int))) (T.need (decide (c.I.toNat < List.length (List.set d.L b.I.toNat (updC (List.getD d.L b.I.toNat []) [D.i (D.I (List.getD (List.getD d.L c.I.toNat []) 0 default)), D.i (D.I (List.getD (List.getD d.L c.I.toNat []) (0 + 1) default))] 0 0 (List.length [K.int IntKind.i64, K.int IntKind.i64]))))) (T.leaf (Rd.again [D.i (a.I.toNat : Int), D.i (IntKind.i64.wrap (b.I + (1 : Int))), D.i (IntKind.i64.wrap (c.I - (1 : Int))), D.l (List.set (List.set d.L b.I.toNat (updC (List.getD d.L b.I.toNat []) [D.i (D.I (List.getD (List.getD d.L c.I.toNat []) 0 default)), D.i (D.I (List.getD (List.getD d.L c.I.toNat []) (0 + 1) default))] 0 0 (List.length [K.int IntKind.i64, K.int IntKind.i64]))) c.I.toNat (updC (List.getD (List.set d.L b.I.toNat (updC (List.getD d.L b.I.toNat []) [D.i (D.I (List.getD (List.getD d.L c.I.toNat []) 0 default)), D.i (D.I (List.getD (List.getD d.L c.I.toNat []) (0 + 1) default))] 0 0 (List.length [K.int IntKind.i64, K.int IntKind.i64]))) c.I.toNat []) [D.i (D.I (List.getD (List.getD d.L b.I.toNat []) 0 default)), D.i (D.I (List.getD (List.getD d.L b.I.toNat []) (0 + 1) default))] 0 0 (List.length [K.int IntKind.i64, K.int IntKind.i64])))])))))))))) (T.leaf (Rd.out (Ex.exit 0) [D.l d.L])) := by kernel_rfl
theorem t61 (a b : D) : fnTW C tab61 61 s61 [a, b] =
 T.need (yes (b.L.length ≤ 2000 ∧ (a.I.toNat : Int) = (b.L.length : Int) ∧ (0 : Int) ≤ (0 : Int) ∧ (0 : Int) ≤ IntKind.i64.wrap ((a.I.toNat : Int) - (1 : Int)) ∧ IntKind.i64.wrap ((a.I.toNat : Int) - (1 : Int)) < (b.L.length : Int) ∧ (0 : Int) ≤ IntKind.i64.wrap ((a.I.toNat : Int) - (1 : Int)) + (1 : Int))) (T.leaf [D.l (revL can3 (Int.toNat (IntKind.i64.wrap ((a.I.toNat : Int) - (1 : Int)) - (0 : Int) + (1 : Int)) / 2) (Int.toNat (0 : Int)) (Int.toNat (IntKind.i64.wrap ((a.I.toNat : Int) - (1 : Int)))) b.L)]) := by kernel_rfl
theorem t61_1 (a b c d : D) : roundTK C tab61 61 (loopOf C.P 61 1) 1 l61_1 [a, b, c, d] =
 T.ite (decide (b.I < c.I)) (T.need (decide ((0 : Int) ≤ c.I ∧ c.I < (a.I.toNat : Int))) (T.need (decide (c.I.toNat < d.L.length)) (T.need (decide ((0 : Int) ≤ b.I ∧ b.I < (a.I.toNat : Int))) (T.need (decide (b.I.toNat < d.L.length)) (T.need (decide ((0 : Int) ≤ b.I ∧ b.I < (a.I.toNat : Int))) (T.need (decide (b.I.toNat < d.L.length)) (T.need (decide ((0 : Int) ≤ c.I ∧ c.I < (a.I.toNat : Int))) (T.need (decide (c.I.toNat < List.length (List.set d.L b.I.toNat (updC (List.getD d.L b.I.toNat []) [D.i (D.I (List.getD (List.getD d.L c.I.toNat []) 0 default)), D.i (D.I (List.getD (List.getD d.L c.I.toNat []) (0 + 1) default)), D.i (D.I (List.getD (List.getD d.L c.I.toNat []) (0 + 1 + 1) default))] 0 0 (List.length [K.int IntKind.i64, K.int IntKind.i64, K.int IntKind.i64]))))) (T.leaf (Rd.again [D.i (a.I.toNat : Int), D.i (IntKind.i64.wrap (b.I + (1 : Int))), D.i (IntKind.i64.wrap (c.I - (1 : Int))), D.l (List.set (List.set d.L b.I.toNat (updC (List.getD d.L b.I.toNat []) [D.i (D.I (List.getD (List.getD d.L c.I.toNat []) 0 default)), D.i (D.I (List.getD (List.getD d.L c.I.toNat []) (0 + 1) default)), D.i (D.I (List.getD (List.getD d.L c.I.toNat []) (0 + 1 + 1) default))] 0 0 (List.length [K.int IntKind.i64, K.int IntKind.i64, K.int IntKind.i64]))) c.I.toNat (updC (List.getD (List.set d.L b.I.toNat (updC (List.getD d.L b.I.toNat []) [D.i (D.I (List.getD (List.getD d.L c.I.toNat []) 0 default)), D.i (D.I (List.getD (List.getD d.L c.I.toNat []) (0 + 1) default)), D.i (D.I (List.getD (List.getD d.L c.I.toNat []) (0 + 1 + 1) default))] 0 0 (List.length [K.int IntKind.i64, K.int IntKind.i64, K.int IntKind.i64]))) c.I.toNat []) [D.i (D.I (List.getD (List.getD d.L b.I.toNat []) 0 default)), D.i (D.I (List.getD (List.getD d.L b.I.toNat []) (0 + 1) default)), D.i (D.I (List.getD (List.getD d.L b.I.toNat []) (0 + 1 + 1) default))] 0 0 (List.length [K.int IntKind.i64, K.int IntKind.i64, K.int IntKind.i64])))])))))))))) (T.leaf (Rd.out (Ex.exit 0) [D.l d.L])) := by kernel_rfl
theorem t1060 : fnTW C tab1060 60 s1060 [] =
 T.need (yes (IntKind.i64.wrap ((↑0 : Int) - (1 : Int)) ≤ (0 : Int))) (T.leaf []) := by kernel_rfl
theorem t1060_1 (a b : D) : roundT C tab1060 60 (loopOf C.P 60 1) l1060_1 [a, b] =
 T.ite (decide (a.I < b.I)) T.fail (T.leaf (Rd.out (Ex.exit 0) [])) := by kernel_rfl
theorem t1061 : fnTW C tab1061 61 s1061 [] =
 T.need (yes (IntKind.i64.wrap ((↑0 : Int) - (1 : Int)) ≤ (0 : Int))) (T.leaf []) := by kernel_rfl
theorem t1061_1 (a b : D) : roundT C tab1061 61 (loopOf C.P 61 1) l1061_1 [a, b] =
 T.ite (decide (a.I < b.I)) T.fail (T.leaf (Rd.out (Ex.exit 0) [])) := by kernel_rfl
set_option maxRecDepth 100000
theorem roundTK_head {C : Cfg} {tab : Tab} {f : FuncId} {b : Code} {k : Nat} {s : LSig} {j : D} {n : Int} {r : List D} (h : j.I = n) (hs : 2 ≤ s.head.length) : roundTK C tab f b k s (j :: r) = roundTK C tab f b k s (.i n :: r) := by
 obtain ⟨live, head, exits⟩ := s
 match head, hs with
 | a :: b :: c, _ => simp only [roundTK, roundTG, headL, headA, List.headD_cons, List.tail_cons, I_i, h]
theorem bytes3 : Try.prog.types[3].bytes = 8 := by kernel_rfl
theorem begs_step {p : List (List D)} {k : Nat} (hk : k < p.length) (n : Int) : begs p k (p.length - k) n = [D.i n] :: begs p (k + 1) (p.length - (k + 1)) (n + ix (p.getD k []) 0) := by
 rw [show p.length - k = (p.length - (k + 1)) + 1 by omega]
 rfl
theorem lenFrom_step {p : List (List D)} {k : Nat} (hk : k < p.length) : lenFrom p k (p.length - k) = ix (p.getD k []) 0 + lenFrom p (k + 1) (p.length - (k + 1)) := by
 rw [show p.length - k = (p.length - (k + 1)) + 1 by omega]
 rfl
theorem ok52_4 (n : Nat) : LoopSim C (n + 1) 52 (loopOf C.P 52 4) (mkL l52_4 G52_4) := by
 refine loop_ofK hC (sp := sp52) (lp := lp52) (sw := sw52) trivial trivial 0 [] (by kernel_rfl) rfl (fun k hk => by cases hk) (by kernel_rfl) (fun ds => ((ds.getD 3 default).I - (ds.getD 4 default).I).toNat) fun ds rr h => ?_
 unfold G52_4 at h
 split at h
 ·rename_i z n q m i p c j
  obtain ⟨hp, h⟩ := need_some h
  rw [yes_iff] at hp
  obtain ⟨hz, h1, h2, h3, h4, hm⟩ := hp
  obtain ⟨m1, m2, m3⟩ := id hm
  refine ⟨by rw [fuelC]; simp; omega, ?_⟩
  rw [roundTK_head (j := z) (n := 0) hz (by decide), show roundTK C (mkTab sp52 lp52 sw52) 52 (loopOf C.P 52 4) 0 l52_4 [.i 0, n, q, m, i, p, c, j] = _ from t52_4_0 n q m i p c j]
  have hb := lenFrom_bound (l := p.L) 1 0 fun y a b => (allFrom_iff.1 m3) y (Nat.zero_le _) (by omega)
  simp only [lenFrom, Int.add_zero] at hb
  simp only [h1, h2, h3, h4, Int.toNat_zero, ix_def] at h ⊢
  have hx : lenR p.L = _ := lenFrom_step (p := p.L) (k := 0) (by omega)
  have hy := begs_step (p := p.L) (k := 0) (by omega) 0
  rw [Nat.sub_zero, Int.zero_add] at hy
  rw [hx, hy] at h
  have w1 : IntKind.i64.wrap ((0 : Int) + 1) = 1 := by decide
  have w2 : IntKind.i64.wrap (0 + ix (p.L.getD 0 []) 0) = ix (p.L.getD 0 []) 0 := by rw [Int.zero_add]; exact wrap_id (by omega) (by omega)
  rw [w1, w2]
  refine rd_pos (by omega) (rd_dec (by omega) (rd_need rfl (rd_false rfl (rd_need rfl (rd_again ((need_yes ⟨rfl, rfl, rfl, by simp only [I_i]; omega, by simp only [I_i]; omega, hm, rfl, rfl, by simp only [I_i]; omega, by simp only [I_i]; omega⟩).trans ?_) (show ((p.L.length : Int) - 1).toNat < (m.I - i.I).toNat by omega))))))
  rw [← h]
  rfl
 ·rename_i z n q m i p c j s r
  obtain ⟨hp, h⟩ := need_some h
  rw [yes_iff] at hp
  obtain ⟨hz, h1, h2, h3, h4, hm, h5, h6, h7, h8⟩ := hp
  obtain ⟨m1, m2, m3⟩ := id hm
  refine ⟨by rw [fuelC]; simp; omega, ?_⟩
  rw [roundTK_head (j := z) (n := 1) hz (by decide), show roundTK C (mkTab sp52 lp52 sw52) 52 (loopOf C.P 52 4) 0 l52_4 [.i 1, n, q, m, i, p, c, j, s, r] = _ from t52_4_1 n q m i p c j s r]
  obtain ⟨k, hk⟩ : ∃ k : Nat, i.I = k := ⟨i.I.toNat, by omega⟩
  have hrl : r.L.length = k := by omega
  have htk : r.L.take k = r.L := List.take_of_length_le (by omega)
  simp only [h1, h2, h5, hk, Int.toNat_natCast, ix_def, htk, bytes3, List.length_cons, List.length_nil, show (0 : Nat) + 1 = 1 from rfl, show ∀ (x : List D), List.take 1 [x] = [x] from fun _ => rfl] at h h3 h4 h7 h8 ⊢
  refine rd_if (fun hlt => ?_) fun hge => rd_out ?_
  ·have hlt : k < p.L.length := by omega
   have hb := lenFrom_bound (l := p.L) 1 k fun y a b => (allFrom_iff.1 m3) y (Nat.zero_le _) (by omega)
   simp only [lenFrom] at hb
   rw [begs_step hlt, lenFrom_step hlt] at h
   rw [wrap_succ (by omega), wrap_id (x := n.I + ix (p.L.getD k []) 0) (by omega) (by omega)]
   refine rd_dec (by omega) (rd_need rfl (rd_false rfl (rd_dec (by omega) (rd_again ((need_yes ⟨rfl, by simp only [L_l], by simp only [I_i, L_l], by simp only [I_i]; omega, by simp only [I_i]; omega, hm, by simp only [I_i], by simp only [I_i, L_l, List.length_append, List.length_cons, List.length_nil]; omega, by simp only [I_i]; omega, by simp only [I_i]; omega⟩).trans ?_) (show ((p.L.length : Int) - ((k + 1 : Nat) : Int)).toNat < (m.I - i.I).toNat by omega)))))
   rw [← h]
   simp only [run_leaf, L_l, I_i, Int.toNat_natCast, List.append_assoc, List.cons_append, List.nil_append, Int.add_assoc]
  ·rw [← h]
   rw [show p.L.length - k = 0 by omega]
   have : k = p.L.length := by omega
   simp only [begs, lenFrom, List.append_nil, Int.add_zero, run_leaf, this]
 ·cases h
theorem ok52 (n : Nat) : FnOKW C (n + 2) 52 (mkFW s52 G52) := by
 refine fn_ofW hC (sp := sp52) (lp := lp52) (sw := sw52) trivial trivial (by kernel_rfl) [4] (by kernel_rfl) (by kernel_rfl) (fun k hk L hL => by simp at hk; subst hk; cases hL; exact ok52_4 n) fun ds rr h => ?_
 unfold G52 at h
 split at h
 ·rename_i p c j
  obtain ⟨hm, h⟩ := need_some h
  rw [yes_iff] at hm
  refine (congrArg T.run (t52 p c j)).trans ?_
  have hl : (begs p.L 0 p.L.length 0).length = p.L.length := begs_length _ _ _ _
  have htk : (begs p.L 0 p.L.length 0).take p.L.length = begs p.L 0 p.L.length 0 := List.take_of_length_le (by omega)
  obtain ⟨m1, m2, m3⟩ := id hm
  simp only [Int.toNat_natCast, hl, htk, bytes3]
  refine go_yes ⟨by trivial, by trivial, by trivial, by trivial, by trivial, hm⟩ (go_need rfl (go_false rfl (go_dec (by omega) ?_)))
  rw [← h]
  rfl
 ·cases h
theorem begs_get (l : List (List D)) : ∀ (k i q : Nat) (n : Int), q < k → (begs l i k n).getD q [] = [D.i (n + lenFrom l i q)]
 | k + 1, i, 0, n, _ => by simp [begs, lenFrom]
 | k + 1, i, q + 1, n, h => by
   have := begs_get l k (i + 1) q (n + ix (l.getD i []) 0) (by omega)
   simp only [begs, List.getD_cons_succ, lenFrom, this, Int.add_assoc]
theorem begR_get {l : List (List D)} {q : Nat} (h : q ≤ l.length) : ix ((begR l).getD q []) 0 = lenFrom l 0 q := by
 unfold begR
 rw [List.getD_eq_getElem?_getD, List.getElem?_append]
 split
 ·rename_i hq
  rw [begs_length] at hq
  rw [← List.getD_eq_getElem?_getD, begs_get _ _ _ _ _ hq]
  simp [ix, D.I]
 ·rename_i hq
  rw [begs_length] at hq ⊢
  rw [show q = l.length by omega]
  simp [ix, lenR, D.I]
theorem lenFrom_succ (l : List (List D)) (k : Nat) : lenFrom l 0 (k + 1) = lenFrom l 0 k + ix (l.getD k []) 0 := by
 rw [lenFrom_add l k 1 0]
 simp [lenFrom]
theorem emp_false {l : List (List D)} (h : l ≠ []) : l.isEmpty = false := by cases l with
 | nil => exact absurd rfl h
 | cons c cs => rfl
theorem bytes51 : Try.prog.types[51].bytes = 40 := by kernel_rfl
theorem bytes121 : Try.prog.types[121].bytes = 16 := by kernel_rfl
theorem bytes123 : Try.prog.types[123].bytes = 24 := by kernel_rfl
theorem ok56 (n : Nat) : FnOK C (n + 1) 56 (mkF s56 G56) := by
 refine fn_ofS hC (sp := sp56) (lp := lp56) (sw := sw56) trivial trivial (by kernel_rfl) [] (by kernel_rfl) rfl (fun k hk => by cases hk) fun ds rr h => ?_
 unfold G56 at h
 split at h
 ·rename_i l
  obtain ⟨hp, h⟩ := need_some h
  rw [yes_iff] at hp
  obtain ⟨h1, h2⟩ := hp
  refine (congrArg T.run (t56 l)).trans ?_
  have hne := emp_false h1
  rw [bytes51]
  refine go_need (by rw [hne]; rfl) (go_false hne (go_dec (by omega) h))
 ·cases h
theorem ok57 (n : Nat) : FnOK C (n + 1) 57 (mkF s57 Gcl) := by
 refine clone_ok (ks := [.int .i64, .int .i64]) (by kernel_rfl) (fun kd c0 => by cases kd <;> cases c0 <;> kernel_rfl) ?_
 refine fn_ofS hC (sp := sp57) (lp := lp57) (sw := sw57) trivial trivial (by kernel_rfl) [] (by kernel_rfl) rfl (fun k hk => by cases hk) fun ds rr h => ?_
 unfold Gcl1 at h
 split at h
 ·rename_i l
  obtain ⟨hp, h⟩ := need_some h
  rw [yes_iff] at hp
  obtain ⟨h1, h2⟩ := hp
  refine (congrArg T.run (t57 l)).trans ?_
  have hne := emp_false h1
  rw [bytes121]
  refine go_need (by rw [hne]; rfl) (go_false hne (go_dec (by omega) h))
 ·cases h
theorem ok58 (n : Nat) : FnOK C (n + 1) 58 (mkF s58 Gcl) := by
 refine clone_ok (ks := [.int .i64, .int .i64, .int .i64]) (by kernel_rfl) (fun kd c0 => by cases kd <;> cases c0 <;> kernel_rfl) ?_
 refine fn_ofS hC (sp := sp58) (lp := lp58) (sw := sw58) trivial trivial (by kernel_rfl) [] (by kernel_rfl) rfl (fun k hk => by cases hk) fun ds rr h => ?_
 unfold Gcl1 at h
 split at h
 ·rename_i l
  obtain ⟨hp, h⟩ := need_some h
  rw [yes_iff] at hp
  obtain ⟨h1, h2⟩ := hp
  refine (congrArg T.run (t58 l)).trans ?_
  have hne := emp_false h1
  rw [bytes123]
  refine go_need (by rw [hne]; rfl) (go_false hne (go_dec (by omega) h))
 ·cases h
theorem ok59_1 (n : Nat) : LoopSimK C n 1 59 (loopOf C.P 59 1) (mkLK 1 l59_1 G59_1) := by
 refine loop_ofK hC (sp := sp59) (lp := lp59) (sw := sw59) trivial trivial 1 [] (by kernel_rfl) rfl (fun k hk => by cases hk) (by kernel_rfl) (fun ds => ((ds.getD 2 default).I - (ds.getD 1 default).I).toNat) fun ds rr h => ?_
 unfold G59_1 Grev_1 at h
 split at h
 ·rename_i n i j r
  obtain ⟨hp, h⟩ := need_some h
  rw [yes_iff] at hp
  obtain ⟨h1, h2, h3, h4, h5, h6⟩ := hp
  refine ⟨by rw [fuelC]; simp; omega, ?_⟩
  rw [show roundTK C (mkTab sp59 lp59 sw59) 59 (loopOf C.P 59 1) 1 l59_1 [n, i, j, r] = _ from t59_1 n i j r]
  obtain ⟨a, ha⟩ : ∃ a : Nat, i.I = a := ⟨i.I.toNat, by omega⟩
  obtain ⟨b, hb⟩ : ∃ b : Nat, j.I = b := ⟨j.I.toNat, by omega⟩
  simp only [ha, hb, h2, Int.toNat_natCast, List.length_set] at h h3 h4 h5 h6 ⊢
  refine rd_if (fun hlt => ?_) fun hge => ?_
  ·have hlt : a < b := by omega
   rw [show ((b : Int) - (a : Int) + 1).toNat / 2 = (((b - 1 : Nat) : Int) - ((a + 1 : Nat) : Int) + 1).toNat / 2 + 1 by omega] at h
   have w2 : IntKind.i64.wrap ((b : Int) - 1) = ((b - 1 : Nat) : Int) := by rw [show (b : Int) - 1 = ((b - 1 : Nat) : Int) by omega]; exact wrap_id (by omega) (by omega)
   rw [wrap_succ (by omega), w2]
   refine rd_dec (by omega) (rd_dec (by omega) (rd_dec (by omega) (rd_dec (by omega) (rd_dec (by omega) (rd_dec (by omega) (rd_dec (by omega) (rd_dec (by omega) (rd_again ((need_yes ⟨by simp only [L_l, List.length_set]; omega, by simp only [I_i, L_l, List.length_set], by simp only [I_i]; omega, by simp only [I_i]; omega, by simp only [I_i, L_l, List.length_set]; omega, by simp only [I_i]; omega⟩).trans ?_) ?_))))))))
   ·rw [← h]
    simp only [I_i, L_l, Int.toNat_natCast, revL]
    rfl
   ·show ((((b - 1 : Nat) : Int)) - ((a + 1 : Nat) : Int)).toNat < (j.I - i.I).toNat
    omega
  ·rw [show ((b : Int) - (a : Int) + 1).toNat / 2 = 0 by omega] at h
   exact rd_out h
 ·cases h
theorem ok59 (n : Nat) : FnOKW C (n + 1) 59 (mkFW s59 G59) := by
 refine fn_ofW hC (sp := sp59) (lp := lp59) (sw := sw59) trivial trivial (by kernel_rfl) [1] (by kernel_rfl) (by kernel_rfl) (fun k hk L hL => by simp at hk; subst hk; cases hL; exact ok59_1 n) fun ds rr h => ?_
 unfold G59 Grev at h
 split at h
 ·rename_i n r
  obtain ⟨hp, h⟩ := need_some h
  rw [yes_iff] at hp
  obtain ⟨h1, h2, h3⟩ := hp
  refine (congrArg T.run (t59 n r)).trans ?_
  have w2 : IntKind.i64.wrap ((r.L.length : Int) - 1) = ((r.L.length - 1 : Nat) : Int) := by rw [show (r.L.length : Int) - 1 = ((r.L.length - 1 : Nat) : Int) by omega]; exact wrap_id (by omega) (by omega)
  simp only [h3, Int.toNat_natCast, w2, Int.toNat_zero]
  refine go_yes ⟨h2, by trivial, by trivial, by omega, by omega, by omega⟩ ?_
  rw [← h, show (((r.L.length - 1 : Nat) : Int) - 0 + 1).toNat / 2 = r.L.length / 2 by omega]
  rfl
 ·cases h
theorem ok60_1 (n : Nat) : LoopSimK C n 1 60 (loopOf C.P 60 1) (mkLK 1 l60_1 G60_1) := by
 refine loop_ofK hC (sp := sp60) (lp := lp60) (sw := sw60) trivial trivial 1 [] (by kernel_rfl) rfl (fun k hk => by cases hk) (by kernel_rfl) (fun ds => ((ds.getD 2 default).I - (ds.getD 1 default).I).toNat) fun ds rr h => ?_
 unfold G60_1 Grev_1 at h
 split at h
 ·rename_i n i j r
  obtain ⟨hp, h⟩ := need_some h
  rw [yes_iff] at hp
  obtain ⟨h1, h2, h3, h4, h5, h6⟩ := hp
  refine ⟨by rw [fuelC]; simp; omega, ?_⟩
  rw [show roundTK C (mkTab sp60 lp60 sw60) 60 (loopOf C.P 60 1) 1 l60_1 [n, i, j, r] = _ from t60_1 n i j r]
  obtain ⟨a, ha⟩ : ∃ a : Nat, i.I = a := ⟨i.I.toNat, by omega⟩
  obtain ⟨b, hb⟩ : ∃ b : Nat, j.I = b := ⟨j.I.toNat, by omega⟩
  simp only [ha, hb, h2, Int.toNat_natCast, List.length_set] at h h3 h4 h5 h6 ⊢
  refine rd_if (fun hlt => ?_) fun hge => ?_
  ·have hlt : a < b := by omega
   rw [show ((b : Int) - (a : Int) + 1).toNat / 2 = (((b - 1 : Nat) : Int) - ((a + 1 : Nat) : Int) + 1).toNat / 2 + 1 by omega] at h
   have w2 : IntKind.i64.wrap ((b : Int) - 1) = ((b - 1 : Nat) : Int) := by rw [show (b : Int) - 1 = ((b - 1 : Nat) : Int) by omega]; exact wrap_id (by omega) (by omega)
   rw [wrap_succ (by omega), w2]
   refine rd_dec (by omega) (rd_dec (by omega) (rd_dec (by omega) (rd_dec (by omega) (rd_dec (by omega) (rd_dec (by omega) (rd_dec (by omega) (rd_dec (by omega) (rd_again ((need_yes ⟨by simp only [L_l, List.length_set]; omega, by simp only [I_i, L_l, List.length_set], by simp only [I_i]; omega, by simp only [I_i]; omega, by simp only [I_i, L_l, List.length_set]; omega, by simp only [I_i]; omega⟩).trans ?_) ?_))))))))
   ·rw [← h]
    simp only [I_i, L_l, Int.toNat_natCast, revL]
    rfl
   ·show ((((b - 1 : Nat) : Int)) - ((a + 1 : Nat) : Int)).toNat < (j.I - i.I).toNat
    omega
  ·rw [show ((b : Int) - (a : Int) + 1).toNat / 2 = 0 by omega] at h
   exact rd_out h
 ·cases h
theorem ok60 (n : Nat) : FnOKW C (n + 1) 60 (mkFW s60 G60) := by
 refine fn_ofW hC (sp := sp60) (lp := lp60) (sw := sw60) trivial trivial (by kernel_rfl) [1] (by kernel_rfl) (by kernel_rfl) (fun k hk L hL => by simp at hk; subst hk; cases hL; exact ok60_1 n) fun ds rr h => ?_
 unfold G60 Grev at h
 split at h
 ·rename_i n r
  obtain ⟨hp, h⟩ := need_some h
  rw [yes_iff] at hp
  obtain ⟨h1, h2, h3⟩ := hp
  refine (congrArg T.run (t60 n r)).trans ?_
  have w2 : IntKind.i64.wrap ((r.L.length : Int) - 1) = ((r.L.length - 1 : Nat) : Int) := by rw [show (r.L.length : Int) - 1 = ((r.L.length - 1 : Nat) : Int) by omega]; exact wrap_id (by omega) (by omega)
  simp only [h3, Int.toNat_natCast, w2, Int.toNat_zero]
  refine go_yes ⟨h2, by trivial, by trivial, by omega, by omega, by omega⟩ ?_
  rw [← h, show (((r.L.length - 1 : Nat) : Int) - 0 + 1).toNat / 2 = r.L.length / 2 by omega]
  rfl
 ·cases h
theorem ok61_1 (n : Nat) : LoopSimK C n 1 61 (loopOf C.P 61 1) (mkLK 1 l61_1 G61_1) := by
 refine loop_ofK hC (sp := sp61) (lp := lp61) (sw := sw61) trivial trivial 1 [] (by kernel_rfl) rfl (fun k hk => by cases hk) (by kernel_rfl) (fun ds => ((ds.getD 2 default).I - (ds.getD 1 default).I).toNat) fun ds rr h => ?_
 unfold G61_1 Grev_1 at h
 split at h
 ·rename_i n i j r
  obtain ⟨hp, h⟩ := need_some h
  rw [yes_iff] at hp
  obtain ⟨h1, h2, h3, h4, h5, h6⟩ := hp
  refine ⟨by rw [fuelC]; simp; omega, ?_⟩
  rw [show roundTK C (mkTab sp61 lp61 sw61) 61 (loopOf C.P 61 1) 1 l61_1 [n, i, j, r] = _ from t61_1 n i j r]
  obtain ⟨a, ha⟩ : ∃ a : Nat, i.I = a := ⟨i.I.toNat, by omega⟩
  obtain ⟨b, hb⟩ : ∃ b : Nat, j.I = b := ⟨j.I.toNat, by omega⟩
  simp only [ha, hb, h2, Int.toNat_natCast, List.length_set] at h h3 h4 h5 h6 ⊢
  refine rd_if (fun hlt => ?_) fun hge => ?_
  ·have hlt : a < b := by omega
   rw [show ((b : Int) - (a : Int) + 1).toNat / 2 = (((b - 1 : Nat) : Int) - ((a + 1 : Nat) : Int) + 1).toNat / 2 + 1 by omega] at h
   have w2 : IntKind.i64.wrap ((b : Int) - 1) = ((b - 1 : Nat) : Int) := by rw [show (b : Int) - 1 = ((b - 1 : Nat) : Int) by omega]; exact wrap_id (by omega) (by omega)
   rw [wrap_succ (by omega), w2]
   refine rd_dec (by omega) (rd_dec (by omega) (rd_dec (by omega) (rd_dec (by omega) (rd_dec (by omega) (rd_dec (by omega) (rd_dec (by omega) (rd_dec (by omega) (rd_again ((need_yes ⟨by simp only [L_l, List.length_set]; omega, by simp only [I_i, L_l, List.length_set], by simp only [I_i]; omega, by simp only [I_i]; omega, by simp only [I_i, L_l, List.length_set]; omega, by simp only [I_i]; omega⟩).trans ?_) ?_))))))))
   ·rw [← h]
    simp only [I_i, L_l, Int.toNat_natCast, revL]
    rfl
   ·show ((((b - 1 : Nat) : Int)) - ((a + 1 : Nat) : Int)).toNat < (j.I - i.I).toNat
    omega
  ·rw [show ((b : Int) - (a : Int) + 1).toNat / 2 = 0 by omega] at h
   exact rd_out h
 ·cases h
theorem ok61 (n : Nat) : FnOKW C (n + 1) 61 (mkFW s61 G61) := by
 refine fn_ofW hC (sp := sp61) (lp := lp61) (sw := sw61) trivial trivial (by kernel_rfl) [1] (by kernel_rfl) (by kernel_rfl) (fun k hk L hL => by simp at hk; subst hk; cases hL; exact ok61_1 n) fun ds rr h => ?_
 unfold G61 Grev at h
 split at h
 ·rename_i n r
  obtain ⟨hp, h⟩ := need_some h
  rw [yes_iff] at hp
  obtain ⟨h1, h2, h3⟩ := hp
  refine (congrArg T.run (t61 n r)).trans ?_
  have w2 : IntKind.i64.wrap ((r.L.length : Int) - 1) = ((r.L.length - 1 : Nat) : Int) := by rw [show (r.L.length : Int) - 1 = ((r.L.length - 1 : Nat) : Int) by omega]; exact wrap_id (by omega) (by omega)
  simp only [h3, Int.toNat_natCast, w2, Int.toNat_zero]
  refine go_yes ⟨h2, by trivial, by trivial, by omega, by omega, by omega⟩ ?_
  rw [← h, show (((r.L.length - 1 : Nat) : Int) - 0 + 1).toNat / 2 = r.L.length / 2 by omega]
  rfl
 ·cases h
theorem ok1060_1 (n : Nat) : LoopSim C n 60 (loopOf C.P 60 1) (mkL l1060_1 G1060_1) := by
 refine loop_ofK hC (sp := sp1060) (lp := lp1060) (sw := sw1060) trivial trivial 0 [] (by kernel_rfl) rfl (fun k hk => by cases hk) (by kernel_rfl) (fun _ => 0) fun ds rr h => ?_
 unfold G1060_1  at h
 split at h
 ·rename_i i j
  obtain ⟨hp, h⟩ := need_some h
  rw [yes_iff] at hp
  refine ⟨by rw [fuelC]; simp, ?_⟩
  rw [show roundTK C (mkTab sp1060 lp1060 sw1060) 60 (loopOf C.P 60 1) 0 l1060_1 [i, j] = _ from t1060_1 i j]
  exact rd_neg (ds := [i, j]) (by omega) (rd_out h)
 ·cases h
theorem ok1060 (n : Nat) : FnOKW C (n + 1) 60 (mkFW s1060 G1060) := by
 refine fn_ofW hC (sp := sp1060) (lp := lp1060) (sw := sw1060) trivial trivial (by kernel_rfl) [1] (by kernel_rfl) (by kernel_rfl) (fun k hk L hL => by simp at hk; subst hk; cases hL; exact ok1060_1 n) fun ds rr h => ?_
 unfold G1060  at h
 split at h
 ·exact (congrArg T.run t1060).trans (go_yes (by decide) h)
 ·cases h
theorem ok1061_1 (n : Nat) : LoopSim C n 61 (loopOf C.P 61 1) (mkL l1061_1 G1061_1) := by
 refine loop_ofK hC (sp := sp1061) (lp := lp1061) (sw := sw1061) trivial trivial 0 [] (by kernel_rfl) rfl (fun k hk => by cases hk) (by kernel_rfl) (fun _ => 0) fun ds rr h => ?_
 unfold G1061_1 G1060_1 at h
 split at h
 ·rename_i i j
  obtain ⟨hp, h⟩ := need_some h
  rw [yes_iff] at hp
  refine ⟨by rw [fuelC]; simp, ?_⟩
  rw [show roundTK C (mkTab sp1061 lp1061 sw1061) 61 (loopOf C.P 61 1) 0 l1061_1 [i, j] = _ from t1061_1 i j]
  exact rd_neg (ds := [i, j]) (by omega) (rd_out h)
 ·cases h
theorem ok1061 (n : Nat) : FnOKW C (n + 1) 61 (mkFW s1061 G1061) := by
 refine fn_ofW hC (sp := sp1061) (lp := lp1061) (sw := sw1061) trivial trivial (by kernel_rfl) [1] (by kernel_rfl) (by kernel_rfl) (fun k hk L hL => by simp at hk; subst hk; cases hL; exact ok1061_1 n) fun ds rr h => ?_
 unfold G1061 G1060 at h
 split at h
 ·exact (congrArg T.run t1061).trans (go_yes (by decide) h)
 ·cases h
noncomputable section
def lenD (l : List (List D)) : D := .i (l.length : Nat)
def roadP (p c j : List (List D)) : Prop := roadOk p c j = true
def updF (g : List D → List D) : Nat → Nat → List (List D) → List (List D)
 | _, 0, l => l
 | i, k + 1, l => updF g (i + 1) k (l.set i (g (l.getD i [])))
def turnU (x : List D) : List D := updC x [.i (IntKind.i64.wrap (0 - ix x 1))] 1 0 5
def crestU (n : Int) (x : List D) : List D := updC x [.i (IntKind.i64.wrap (n - ix x 0))] 0 0 2
def juncU (n : Int) (x : List D) : List D := updC (updC x [.i (IntKind.i64.wrap (n - ix x 0))] 0 0 3) [.i (IntKind.i64.wrap (IntKind.i64.wrap (ix x 1 + 1) - ix x 2))] 2 0 3
def stG (m i : Int) (l : List (List D)) : Prop := m = l.length ∧ 0 ≤ i ∧ i ≤ l.length ∧ l.length ≤ 2000
def G20_10 (ds : List D) : T (Ex × List D) := match ds with
 | [z, n, m, i, s, o] => .need (yes (z.I = 0 ∧ s.I = o.L.length ∧ stG m.I i.I o.L)) (.leaf (.exit 0, [.i 0, .i n.I, lenD o.L, .l (updF turnU i.I.toNat (o.L.length - i.I.toNat) o.L)]))
 | [z, n, m, i, s, t, o, u] => .need (yes ((z.I = 1 ∨ z.I = 2) ∧ s.I = o.L.length ∧ t.I = u.L.length ∧ stG m.I i.I o.L)) (.leaf (.exit 0, [.i z.I, .i n.I, lenD o.L, lenD u.L, .l (updF turnU i.I.toNat (o.L.length - i.I.toNat) o.L), .l u.L]))
 | [z, n, m, i, s, t, v, o, u, w] => .need (yes (z.I = 3 ∧ s.I = o.L.length ∧ t.I = u.L.length ∧ v.I = w.L.length ∧ stG m.I i.I o.L)) (.leaf (.exit 0, [.i 3, .i n.I, lenD o.L, lenD u.L, lenD w.L, .l (updF turnU i.I.toNat (o.L.length - i.I.toNat) o.L), .l u.L, .l w.L]))
 | _ => .fail
def G20_15 (ds : List D) : T (Ex × List D) := match ds with
 | [z, n, m, i, s, o] => .need (yes (z.I = 0 ∧ s.I = o.L.length ∧ m.I = 0 ∧ i.I = 0)) (.leaf (.exit 2, [.i 0, .i n.I, lenD o.L, .l o.L]))
 | [z, n, m, i, s, t, o, u] => .need (yes ((z.I = 1 ∧ m.I = 0 ∧ i.I = 0 ∨ z.I = 2 ∧ stG m.I i.I u.L) ∧ s.I = o.L.length ∧ t.I = u.L.length))
     (.ite (decide (z.I = 1)) (.leaf (.exit 2, [.i 1, .i n.I, lenD o.L, lenD u.L, .l o.L, .l u.L])) (.leaf (.exit 2, [.i 2, .i n.I, lenD o.L, lenD u.L, .l o.L, .l (updF (crestU n.I) i.I.toNat (u.L.length - i.I.toNat) u.L)])))
 | [z, n, m, i, s, t, v, o, u, w] => .need (yes (z.I = 3 ∧ s.I = o.L.length ∧ t.I = u.L.length ∧ v.I = w.L.length ∧ stG m.I i.I u.L)) (.leaf (.exit 2, [.i 3, .i n.I, lenD o.L, lenD u.L, lenD w.L, .l o.L, .l (updF (crestU n.I) i.I.toNat (u.L.length - i.I.toNat) u.L), .l w.L]))
 | _ => .fail
def G20_20 (ds : List D) : T (Ex × List D) := match ds with
 | [z, _, m, i, s, o] => .need (yes (z.I = 0 ∧ s.I = o.L.length ∧ m.I = 0 ∧ i.I = 0)) (.leaf (.exit 4, [.i 0, lenD o.L, .l o.L]))
 | [z, n, m, i, s, t, o, u] => .need (yes ((z.I = 2 ∧ m.I = 0 ∧ i.I = 0 ∨ z.I = 1 ∧ stG m.I i.I u.L) ∧ s.I = o.L.length ∧ t.I = u.L.length))
     (.ite (decide (z.I = 2)) (.leaf (.exit 4, [.i 2, lenD o.L, lenD u.L, .l o.L, .l u.L])) (.leaf (.exit 4, [.i 1, lenD o.L, lenD u.L, .l o.L, .l (updF (juncU n.I) i.I.toNat (u.L.length - i.I.toNat) u.L)])))
 | [z, n, m, i, s, t, v, o, u, w] => .need (yes (z.I = 3 ∧ s.I = o.L.length ∧ t.I = u.L.length ∧ v.I = w.L.length ∧ stG m.I i.I w.L)) (.leaf (.exit 4, [.i 3, lenD o.L, lenD u.L, lenD w.L, .l o.L, .l u.L, .l (updF (juncU n.I) i.I.toNat (w.L.length - i.I.toNat) w.L)]))
 | _ => .fail
def turnR (l : List (List D)) : List (List D) := updF turnU 0 l.length (revR can5 l)
def crestR (n : Int) (l : List (List D)) : List (List D) := if l.isEmpty then [] else updF (crestU n) 0 l.length (revR can2 l)
def juncR (n : Int) (l : List (List D)) : List (List D) := if l.isEmpty then [] else updF (juncU n) 0 l.length (revR can3 l)
def G20 (ds : List D) : T (List D) := match ds with
 | [p, c, j] => .need (yes (roadP p.L c.L j.L)) (.leaf [.l (turnR p.L), .l (crestR (lenR p.L) c.L), .l (juncR (lenR p.L) j.L), .i 0])
 | _ => .fail
end
def mkFWs : List (SigW × (List D → T (List D))) → List SV → SHeap → T (SV × SHeap)
 | [], _, _ => .fail
 | p :: r, args, h => match fitsVs p.1.args args, fitsH p.1.hin h with
   | some a, some b => (p.2 (a ++ b)).map (headR p.1.res)
   | _, _ => mkFWs r args h
def ManyW (C : Cfg) (n : Nat) (f : FuncId) : List (SigW × (List D → T (List D))) → Prop
 | [] => True
 | p :: r => FnOKW C n f (mkFW p.1 p.2) ∧ ManyW C n f r
theorem many_ok {C : Cfg} {n : Nat} {f : FuncId} : ∀ {l : List (SigW × (List D → T (List D)))}, ManyW C n f l → FnOKW C n f (mkFWs l)
 | [], _ => fun args h v hb hv => by cases hv
 | p :: r, hl => fun args h v hb hv avs h0 h1 h2 S H s => by
   unfold mkFWs at hv
   split at hv
   ·rename_i a b e1 e2
    exact hl.1 args h v hb (by unfold mkFW; rw [e1, e2]; exact hv) avs h0 h1 h2 S H s
   ·exact many_ok hl.2 args h v hb hv avs h0 h1 h2 S H s
noncomputable def sp20 : SpL := [(51, mkF s51 G51), (53, mkF s53 G53), (56, mkF s56 G56), (57, mkF s57 Gcl), (58, mkF s58 Gcl)]
noncomputable def lp20 : LpL := [(10, mkL l20_10 G20_10), (15, mkL l20_15 G20_15), (20, mkL l20_20 G20_20)]
noncomputable def sw20 : SwL := [(52, mkFW s52 G52), (59, mkFW s59 G59), (60, mkFWs [(s60, G60), (s1060, G1060)]), (61, mkFWs [(s61, G61), (s1061, G1061)])]
noncomputable def tab20 : Tab := mkTab sp20 lp20 sw20
set_option linter.unusedVariables false
set_option maxRecDepth 100000
theorem t20 (a b c : D) : fnT C tab20 20 s20 [a, b, c] =
 T.ite (roadOk a.L b.L c.L) (T.ite false (T.leaf [D.l [], D.l [], D.l [], D.i 0]) (T.need (yes (manyP a.L)) (T.need (decide (Int.toNat (↑(a.L.length + 1) : Int) ≤ List.length (begR a.L))) (T.need (yes (manyP a.L ∧ List.take (Int.toNat (↑(a.L.length + 1) : Int)) (begR a.L) = begR a.L)) (T.need (yes (a.L ≠ [] ∧ a.L.length ≤ 1073741824)) (T.need (yes (b.L.length ≤ 1073741824)) (T.ite (List.isEmpty b.L) (T.need (yes (c.L.length ≤ 1073741824)) (T.ite (List.isEmpty c.L) (T.need (yes (1 ≤ a.L.length ∧ a.L.length ≤ 2000 ∧ (↑(Int.toNat (a.L.length : Int)) : Int) = (a.L.length : Int))) (T.need (yes ((↑0 : Int) = (0 : Int) ∧ (↑(Int.toNat (a.L.length : Int)) : Int) = (↑(List.length (revR can5 a.L)) : Int) ∧ stG (↑(Int.toNat (a.L.length : Int)) : Int) (0 : Int) (revR can5 a.L))) (T.need (yes ((↑0 : Int) = (0 : Int) ∧ (↑(Int.toNat (↑(List.length (revR can5 a.L)) : Int)) : Int) = (↑(List.length (updF turnU (Int.toNat (0 : Int)) (List.length (revR can5 a.L) - Int.toNat (0 : Int)) (revR can5 a.L))) : Int) ∧ (↑0 : Int) = (0 : Int) ∧ (0 : Int) = (0 : Int))) (T.need (yes ((↑0 : Int) = (0 : Int) ∧ (↑(Int.toNat (↑(List.length (updF turnU (Int.toNat (0 : Int)) (List.length (revR can5 a.L) - Int.toNat (0 : Int)) (revR can5 a.L))) : Int)) : Int) = (↑(List.length (updF turnU (Int.toNat (0 : Int)) (List.length (revR can5 a.L) - Int.toNat (0 : Int)) (revR can5 a.L))) : Int) ∧ (↑0 : Int) = (0 : Int) ∧ (0 : Int) = (0 : Int))) (T.need (decide (Int.toNat (↑(List.length (updF turnU (Int.toNat (0 : Int)) (List.length (revR can5 a.L) - Int.toNat (0 : Int)) (revR can5 a.L))) : Int) ≤ List.length (updF turnU (Int.toNat (0 : Int)) (List.length (revR can5 a.L) - Int.toNat (0 : Int)) (revR can5 a.L)))) (T.leaf [D.l (List.take (Int.toNat (↑(List.length (updF turnU (Int.toNat (0 : Int)) (List.length (revR can5 a.L) - Int.toNat (0 : Int)) (revR can5 a.L))) : Int)) (updF turnU (Int.toNat (0 : Int)) (List.length (revR can5 a.L) - Int.toNat (0 : Int)) (revR can5 a.L))), D.l [], D.l [], D.i 0])))))) (T.need (yes (1 ≤ a.L.length ∧ a.L.length ≤ 2000 ∧ (↑(Int.toNat (a.L.length : Int)) : Int) = (a.L.length : Int))) (T.need (yes (1 ≤ c.L.length ∧ c.L.length ≤ 2000 ∧ (↑(Int.toNat (c.L.length : Int)) : Int) = (c.L.length : Int))) (T.need (yes (((↑(0 + 1) : Int) = (1 : Int) ∨ (↑(0 + 1) : Int) = (2 : Int)) ∧ (↑(Int.toNat (a.L.length : Int)) : Int) = (↑(List.length (revR can5 a.L)) : Int) ∧ (↑(Int.toNat (c.L.length : Int)) : Int) = (↑(List.length (revR can3 c.L)) : Int) ∧ stG (↑(Int.toNat (a.L.length : Int)) : Int) (0 : Int) (revR can5 a.L))) (T.need (yes (((↑(0 + 1) : Int) = (1 : Int) ∧ (↑0 : Int) = (0 : Int) ∧ (0 : Int) = (0 : Int) ∨ (↑(0 + 1) : Int) = (2 : Int) ∧ stG (↑0 : Int) (0 : Int) (revR can3 c.L)) ∧ (↑(Int.toNat (↑(List.length (revR can5 a.L)) : Int)) : Int) = (↑(List.length (updF turnU (Int.toNat (0 : Int)) (List.length (revR can5 a.L) - Int.toNat (0 : Int)) (revR can5 a.L))) : Int) ∧ (↑(Int.toNat (↑(List.length (revR can3 c.L)) : Int)) : Int) = (↑(List.length (revR can3 c.L)) : Int))) (T.ite true (T.need (yes (((↑(0 + 1) : Int) = (2 : Int) ∧ (↑(Int.toNat (↑(List.length (revR can3 c.L)) : Int)) : Int) = (0 : Int) ∧ (0 : Int) = (0 : Int) ∨ (↑(0 + 1) : Int) = (1 : Int) ∧ stG (↑(Int.toNat (↑(List.length (revR can3 c.L)) : Int)) : Int) (0 : Int) (revR can3 c.L)) ∧ (↑(Int.toNat (↑(List.length (updF turnU (Int.toNat (0 : Int)) (List.length (revR can5 a.L) - Int.toNat (0 : Int)) (revR can5 a.L))) : Int)) : Int) = (↑(List.length (updF turnU (Int.toNat (0 : Int)) (List.length (revR can5 a.L) - Int.toNat (0 : Int)) (revR can5 a.L))) : Int) ∧ (↑(Int.toNat (↑(List.length (revR can3 c.L)) : Int)) : Int) = (↑(List.length (revR can3 c.L)) : Int))) (T.ite false (T.need (decide (Int.toNat (↑(List.length (updF turnU (Int.toNat (0 : Int)) (List.length (revR can5 a.L) - Int.toNat (0 : Int)) (revR can5 a.L))) : Int) ≤ List.length (updF turnU (Int.toNat (0 : Int)) (List.length (revR can5 a.L) - Int.toNat (0 : Int)) (revR can5 a.L)))) (T.need (decide (Int.toNat (↑(List.length (revR can3 c.L)) : Int) ≤ List.length (revR can3 c.L))) (T.leaf [D.l (List.take (Int.toNat (↑(List.length (updF turnU (Int.toNat (0 : Int)) (List.length (revR can5 a.L) - Int.toNat (0 : Int)) (revR can5 a.L))) : Int)) (updF turnU (Int.toNat (0 : Int)) (List.length (revR can5 a.L) - Int.toNat (0 : Int)) (revR can5 a.L))), D.l (List.take (Int.toNat (↑(List.length (revR can3 c.L)) : Int)) (revR can3 c.L)), D.l [], D.i 0]))) (T.need (decide (Int.toNat (↑(List.length (updF turnU (Int.toNat (0 : Int)) (List.length (revR can5 a.L) - Int.toNat (0 : Int)) (revR can5 a.L))) : Int) ≤ List.length (updF turnU (Int.toNat (0 : Int)) (List.length (revR can5 a.L) - Int.toNat (0 : Int)) (revR can5 a.L)))) (T.need (decide (Int.toNat (↑(List.length (revR can3 c.L)) : Int) ≤ List.length (updF (juncU (ix (List.getD (List.take (Int.toNat (↑(a.L.length + 1) : Int)) (begR a.L)) a.L.length []) 0)) (Int.toNat (0 : Int)) (List.length (revR can3 c.L) - Int.toNat (0 : Int)) (revR can3 c.L)))) (T.leaf [D.l (List.take (Int.toNat (↑(List.length (updF turnU (Int.toNat (0 : Int)) (List.length (revR can5 a.L) - Int.toNat (0 : Int)) (revR can5 a.L))) : Int)) (updF turnU (Int.toNat (0 : Int)) (List.length (revR can5 a.L) - Int.toNat (0 : Int)) (revR can5 a.L))), D.l [], D.l (List.take (Int.toNat (↑(List.length (revR can3 c.L)) : Int)) (updF (juncU (ix (List.getD (List.take (Int.toNat (↑(a.L.length + 1) : Int)) (begR a.L)) a.L.length []) 0)) (Int.toNat (0 : Int)) (List.length (revR can3 c.L) - Int.toNat (0 : Int)) (revR can3 c.L))), D.i 0]))))) (T.need (yes (((↑(0 + 1 + 1) : Int) = (2 : Int) ∧ (↑0 : Int) = (0 : Int) ∧ (0 : Int) = (0 : Int) ∨ (↑(0 + 1 + 1) : Int) = (1 : Int) ∧ stG (↑0 : Int) (0 : Int) (updF (crestU (ix (List.getD (List.take (Int.toNat (↑(a.L.length + 1) : Int)) (begR a.L)) a.L.length []) 0)) (Int.toNat (0 : Int)) (List.length (revR can3 c.L) - Int.toNat (0 : Int)) (revR can3 c.L))) ∧ (↑(Int.toNat (↑(List.length (updF turnU (Int.toNat (0 : Int)) (List.length (revR can5 a.L) - Int.toNat (0 : Int)) (revR can5 a.L))) : Int)) : Int) = (↑(List.length (updF turnU (Int.toNat (0 : Int)) (List.length (revR can5 a.L) - Int.toNat (0 : Int)) (revR can5 a.L))) : Int) ∧ (↑(Int.toNat (↑(List.length (revR can3 c.L)) : Int)) : Int) = (↑(List.length (updF (crestU (ix (List.getD (List.take (Int.toNat (↑(a.L.length + 1) : Int)) (begR a.L)) a.L.length []) 0)) (Int.toNat (0 : Int)) (List.length (revR can3 c.L) - Int.toNat (0 : Int)) (revR can3 c.L))) : Int))) (T.ite true (T.need (decide (Int.toNat (↑(List.length (updF turnU (Int.toNat (0 : Int)) (List.length (revR can5 a.L) - Int.toNat (0 : Int)) (revR can5 a.L))) : Int) ≤ List.length (updF turnU (Int.toNat (0 : Int)) (List.length (revR can5 a.L) - Int.toNat (0 : Int)) (revR can5 a.L)))) (T.need (decide (Int.toNat (↑(List.length (updF (crestU (ix (List.getD (List.take (Int.toNat (↑(a.L.length + 1) : Int)) (begR a.L)) a.L.length []) 0)) (Int.toNat (0 : Int)) (List.length (revR can3 c.L) - Int.toNat (0 : Int)) (revR can3 c.L))) : Int) ≤ List.length (updF (crestU (ix (List.getD (List.take (Int.toNat (↑(a.L.length + 1) : Int)) (begR a.L)) a.L.length []) 0)) (Int.toNat (0 : Int)) (List.length (revR can3 c.L) - Int.toNat (0 : Int)) (revR can3 c.L)))) (T.leaf [D.l (List.take (Int.toNat (↑(List.length (updF turnU (Int.toNat (0 : Int)) (List.length (revR can5 a.L) - Int.toNat (0 : Int)) (revR can5 a.L))) : Int)) (updF turnU (Int.toNat (0 : Int)) (List.length (revR can5 a.L) - Int.toNat (0 : Int)) (revR can5 a.L))), D.l (List.take (Int.toNat (↑(List.length (updF (crestU (ix (List.getD (List.take (Int.toNat (↑(a.L.length + 1) : Int)) (begR a.L)) a.L.length []) 0)) (Int.toNat (0 : Int)) (List.length (revR can3 c.L) - Int.toNat (0 : Int)) (revR can3 c.L))) : Int)) (updF (crestU (ix (List.getD (List.take (Int.toNat (↑(a.L.length + 1) : Int)) (begR a.L)) a.L.length []) 0)) (Int.toNat (0 : Int)) (List.length (revR can3 c.L) - Int.toNat (0 : Int)) (revR can3 c.L))), D.l [], D.i 0]))) (T.need (decide (Int.toNat (↑(List.length (updF turnU (Int.toNat (0 : Int)) (List.length (revR can5 a.L) - Int.toNat (0 : Int)) (revR can5 a.L))) : Int) ≤ List.length (updF turnU (Int.toNat (0 : Int)) (List.length (revR can5 a.L) - Int.toNat (0 : Int)) (revR can5 a.L)))) (T.need (decide (Int.toNat (↑(List.length (updF (crestU (ix (List.getD (List.take (Int.toNat (↑(a.L.length + 1) : Int)) (begR a.L)) a.L.length []) 0)) (Int.toNat (0 : Int)) (List.length (revR can3 c.L) - Int.toNat (0 : Int)) (revR can3 c.L))) : Int) ≤ List.length (updF (juncU (ix (List.getD (List.take (Int.toNat (↑(a.L.length + 1) : Int)) (begR a.L)) a.L.length []) 0)) (Int.toNat (0 : Int)) (List.length (updF (crestU (ix (List.getD (List.take (Int.toNat (↑(a.L.length + 1) : Int)) (begR a.L)) a.L.length []) 0)) (Int.toNat (0 : Int)) (List.length (revR can3 c.L) - Int.toNat (0 : Int)) (revR can3 c.L)) - Int.toNat (0 : Int)) (updF (crestU (ix (List.getD (List.take (Int.toNat (↑(a.L.length + 1) : Int)) (begR a.L)) a.L.length []) 0)) (Int.toNat (0 : Int)) (List.length (revR can3 c.L) - Int.toNat (0 : Int)) (revR can3 c.L))))) (T.leaf [D.l (List.take (Int.toNat (↑(List.length (updF turnU (Int.toNat (0 : Int)) (List.length (revR can5 a.L) - Int.toNat (0 : Int)) (revR can5 a.L))) : Int)) (updF turnU (Int.toNat (0 : Int)) (List.length (revR can5 a.L) - Int.toNat (0 : Int)) (revR can5 a.L))), D.l [], D.l (List.take (Int.toNat (↑(List.length (updF (crestU (ix (List.getD (List.take (Int.toNat (↑(a.L.length + 1) : Int)) (begR a.L)) a.L.length []) 0)) (Int.toNat (0 : Int)) (List.length (revR can3 c.L) - Int.toNat (0 : Int)) (revR can3 c.L))) : Int)) (updF (juncU (ix (List.getD (List.take (Int.toNat (↑(a.L.length + 1) : Int)) (begR a.L)) a.L.length []) 0)) (Int.toNat (0 : Int)) (List.length (updF (crestU (ix (List.getD (List.take (Int.toNat (↑(a.L.length + 1) : Int)) (begR a.L)) a.L.length []) 0)) (Int.toNat (0 : Int)) (List.length (revR can3 c.L) - Int.toNat (0 : Int)) (revR can3 c.L)) - Int.toNat (0 : Int)) (updF (crestU (ix (List.getD (List.take (Int.toNat (↑(a.L.length + 1) : Int)) (begR a.L)) a.L.length []) 0)) (Int.toNat (0 : Int)) (List.length (revR can3 c.L) - Int.toNat (0 : Int)) (revR can3 c.L)))), D.i 0])))))))))))) (T.need (yes (c.L.length ≤ 1073741824)) (T.ite (List.isEmpty c.L) (T.need (yes (1 ≤ a.L.length ∧ a.L.length ≤ 2000 ∧ (↑(Int.toNat (a.L.length : Int)) : Int) = (a.L.length : Int))) (T.need (yes (1 ≤ b.L.length ∧ b.L.length ≤ 2000 ∧ (↑(Int.toNat (b.L.length : Int)) : Int) = (b.L.length : Int))) (T.need (yes (((↑(0 + 1 + 1) : Int) = (1 : Int) ∨ (↑(0 + 1 + 1) : Int) = (2 : Int)) ∧ (↑(Int.toNat (a.L.length : Int)) : Int) = (↑(List.length (revR can5 a.L)) : Int) ∧ (↑(Int.toNat (b.L.length : Int)) : Int) = (↑(List.length (revR can2 b.L)) : Int) ∧ stG (↑(Int.toNat (a.L.length : Int)) : Int) (0 : Int) (revR can5 a.L))) (T.need (yes (((↑(0 + 1 + 1) : Int) = (1 : Int) ∧ (↑(Int.toNat (↑(List.length (revR can2 b.L)) : Int)) : Int) = (0 : Int) ∧ (0 : Int) = (0 : Int) ∨ (↑(0 + 1 + 1) : Int) = (2 : Int) ∧ stG (↑(Int.toNat (↑(List.length (revR can2 b.L)) : Int)) : Int) (0 : Int) (revR can2 b.L)) ∧ (↑(Int.toNat (↑(List.length (revR can5 a.L)) : Int)) : Int) = (↑(List.length (updF turnU (Int.toNat (0 : Int)) (List.length (revR can5 a.L) - Int.toNat (0 : Int)) (revR can5 a.L))) : Int) ∧ (↑(Int.toNat (↑(List.length (revR can2 b.L)) : Int)) : Int) = (↑(List.length (revR can2 b.L)) : Int))) (T.ite false (T.need (yes (((↑(0 + 1) : Int) = (2 : Int) ∧ (↑(Int.toNat (↑(List.length (revR can2 b.L)) : Int)) : Int) = (0 : Int) ∧ (0 : Int) = (0 : Int) ∨ (↑(0 + 1) : Int) = (1 : Int) ∧ stG (↑(Int.toNat (↑(List.length (revR can2 b.L)) : Int)) : Int) (0 : Int) (revR can2 b.L)) ∧ (↑(Int.toNat (↑(List.length (updF turnU (Int.toNat (0 : Int)) (List.length (revR can5 a.L) - Int.toNat (0 : Int)) (revR can5 a.L))) : Int)) : Int) = (↑(List.length (updF turnU (Int.toNat (0 : Int)) (List.length (revR can5 a.L) - Int.toNat (0 : Int)) (revR can5 a.L))) : Int) ∧ (↑(Int.toNat (↑(List.length (revR can2 b.L)) : Int)) : Int) = (↑(List.length (revR can2 b.L)) : Int))) (T.ite false (T.need (decide (Int.toNat (↑(List.length (updF turnU (Int.toNat (0 : Int)) (List.length (revR can5 a.L) - Int.toNat (0 : Int)) (revR can5 a.L))) : Int) ≤ List.length (updF turnU (Int.toNat (0 : Int)) (List.length (revR can5 a.L) - Int.toNat (0 : Int)) (revR can5 a.L)))) (T.need (decide (Int.toNat (↑(List.length (revR can2 b.L)) : Int) ≤ List.length (revR can2 b.L))) (T.leaf [D.l (List.take (Int.toNat (↑(List.length (updF turnU (Int.toNat (0 : Int)) (List.length (revR can5 a.L) - Int.toNat (0 : Int)) (revR can5 a.L))) : Int)) (updF turnU (Int.toNat (0 : Int)) (List.length (revR can5 a.L) - Int.toNat (0 : Int)) (revR can5 a.L))), D.l (List.take (Int.toNat (↑(List.length (revR can2 b.L)) : Int)) (revR can2 b.L)), D.l [], D.i 0]))) (T.need (decide (Int.toNat (↑(List.length (updF turnU (Int.toNat (0 : Int)) (List.length (revR can5 a.L) - Int.toNat (0 : Int)) (revR can5 a.L))) : Int) ≤ List.length (updF turnU (Int.toNat (0 : Int)) (List.length (revR can5 a.L) - Int.toNat (0 : Int)) (revR can5 a.L)))) (T.need (decide (Int.toNat (↑(List.length (revR can2 b.L)) : Int) ≤ List.length (updF (juncU (ix (List.getD (List.take (Int.toNat (↑(a.L.length + 1) : Int)) (begR a.L)) a.L.length []) 0)) (Int.toNat (0 : Int)) (List.length (revR can2 b.L) - Int.toNat (0 : Int)) (revR can2 b.L)))) (T.leaf [D.l (List.take (Int.toNat (↑(List.length (updF turnU (Int.toNat (0 : Int)) (List.length (revR can5 a.L) - Int.toNat (0 : Int)) (revR can5 a.L))) : Int)) (updF turnU (Int.toNat (0 : Int)) (List.length (revR can5 a.L) - Int.toNat (0 : Int)) (revR can5 a.L))), D.l [], D.l (List.take (Int.toNat (↑(List.length (revR can2 b.L)) : Int)) (updF (juncU (ix (List.getD (List.take (Int.toNat (↑(a.L.length + 1) : Int)) (begR a.L)) a.L.length []) 0)) (Int.toNat (0 : Int)) (List.length (revR can2 b.L) - Int.toNat (0 : Int)) (revR can2 b.L))), D.i 0]))))) (T.need (yes (((↑(0 + 1 + 1) : Int) = (2 : Int) ∧ (↑0 : Int) = (0 : Int) ∧ (0 : Int) = (0 : Int) ∨ (↑(0 + 1 + 1) : Int) = (1 : Int) ∧ stG (↑0 : Int) (0 : Int) (updF (crestU (ix (List.getD (List.take (Int.toNat (↑(a.L.length + 1) : Int)) (begR a.L)) a.L.length []) 0)) (Int.toNat (0 : Int)) (List.length (revR can2 b.L) - Int.toNat (0 : Int)) (revR can2 b.L))) ∧ (↑(Int.toNat (↑(List.length (updF turnU (Int.toNat (0 : Int)) (List.length (revR can5 a.L) - Int.toNat (0 : Int)) (revR can5 a.L))) : Int)) : Int) = (↑(List.length (updF turnU (Int.toNat (0 : Int)) (List.length (revR can5 a.L) - Int.toNat (0 : Int)) (revR can5 a.L))) : Int) ∧ (↑(Int.toNat (↑(List.length (revR can2 b.L)) : Int)) : Int) = (↑(List.length (updF (crestU (ix (List.getD (List.take (Int.toNat (↑(a.L.length + 1) : Int)) (begR a.L)) a.L.length []) 0)) (Int.toNat (0 : Int)) (List.length (revR can2 b.L) - Int.toNat (0 : Int)) (revR can2 b.L))) : Int))) (T.ite true (T.need (decide (Int.toNat (↑(List.length (updF turnU (Int.toNat (0 : Int)) (List.length (revR can5 a.L) - Int.toNat (0 : Int)) (revR can5 a.L))) : Int) ≤ List.length (updF turnU (Int.toNat (0 : Int)) (List.length (revR can5 a.L) - Int.toNat (0 : Int)) (revR can5 a.L)))) (T.need (decide (Int.toNat (↑(List.length (updF (crestU (ix (List.getD (List.take (Int.toNat (↑(a.L.length + 1) : Int)) (begR a.L)) a.L.length []) 0)) (Int.toNat (0 : Int)) (List.length (revR can2 b.L) - Int.toNat (0 : Int)) (revR can2 b.L))) : Int) ≤ List.length (updF (crestU (ix (List.getD (List.take (Int.toNat (↑(a.L.length + 1) : Int)) (begR a.L)) a.L.length []) 0)) (Int.toNat (0 : Int)) (List.length (revR can2 b.L) - Int.toNat (0 : Int)) (revR can2 b.L)))) (T.leaf [D.l (List.take (Int.toNat (↑(List.length (updF turnU (Int.toNat (0 : Int)) (List.length (revR can5 a.L) - Int.toNat (0 : Int)) (revR can5 a.L))) : Int)) (updF turnU (Int.toNat (0 : Int)) (List.length (revR can5 a.L) - Int.toNat (0 : Int)) (revR can5 a.L))), D.l (List.take (Int.toNat (↑(List.length (updF (crestU (ix (List.getD (List.take (Int.toNat (↑(a.L.length + 1) : Int)) (begR a.L)) a.L.length []) 0)) (Int.toNat (0 : Int)) (List.length (revR can2 b.L) - Int.toNat (0 : Int)) (revR can2 b.L))) : Int)) (updF (crestU (ix (List.getD (List.take (Int.toNat (↑(a.L.length + 1) : Int)) (begR a.L)) a.L.length []) 0)) (Int.toNat (0 : Int)) (List.length (revR can2 b.L) - Int.toNat (0 : Int)) (revR can2 b.L))), D.l [], D.i 0]))) (T.need (decide (Int.toNat (↑(List.length (updF turnU (Int.toNat (0 : Int)) (List.length (revR can5 a.L) - Int.toNat (0 : Int)) (revR can5 a.L))) : Int) ≤ List.length (updF turnU (Int.toNat (0 : Int)) (List.length (revR can5 a.L) - Int.toNat (0 : Int)) (revR can5 a.L)))) (T.need (decide (Int.toNat (↑(List.length (updF (crestU (ix (List.getD (List.take (Int.toNat (↑(a.L.length + 1) : Int)) (begR a.L)) a.L.length []) 0)) (Int.toNat (0 : Int)) (List.length (revR can2 b.L) - Int.toNat (0 : Int)) (revR can2 b.L))) : Int) ≤ List.length (updF (juncU (ix (List.getD (List.take (Int.toNat (↑(a.L.length + 1) : Int)) (begR a.L)) a.L.length []) 0)) (Int.toNat (0 : Int)) (List.length (updF (crestU (ix (List.getD (List.take (Int.toNat (↑(a.L.length + 1) : Int)) (begR a.L)) a.L.length []) 0)) (Int.toNat (0 : Int)) (List.length (revR can2 b.L) - Int.toNat (0 : Int)) (revR can2 b.L)) - Int.toNat (0 : Int)) (updF (crestU (ix (List.getD (List.take (Int.toNat (↑(a.L.length + 1) : Int)) (begR a.L)) a.L.length []) 0)) (Int.toNat (0 : Int)) (List.length (revR can2 b.L) - Int.toNat (0 : Int)) (revR can2 b.L))))) (T.leaf [D.l (List.take (Int.toNat (↑(List.length (updF turnU (Int.toNat (0 : Int)) (List.length (revR can5 a.L) - Int.toNat (0 : Int)) (revR can5 a.L))) : Int)) (updF turnU (Int.toNat (0 : Int)) (List.length (revR can5 a.L) - Int.toNat (0 : Int)) (revR can5 a.L))), D.l [], D.l (List.take (Int.toNat (↑(List.length (updF (crestU (ix (List.getD (List.take (Int.toNat (↑(a.L.length + 1) : Int)) (begR a.L)) a.L.length []) 0)) (Int.toNat (0 : Int)) (List.length (revR can2 b.L) - Int.toNat (0 : Int)) (revR can2 b.L))) : Int)) (updF (juncU (ix (List.getD (List.take (Int.toNat (↑(a.L.length + 1) : Int)) (begR a.L)) a.L.length []) 0)) (Int.toNat (0 : Int)) (List.length (updF (crestU (ix (List.getD (List.take (Int.toNat (↑(a.L.length + 1) : Int)) (begR a.L)) a.L.length []) 0)) (Int.toNat (0 : Int)) (List.length (revR can2 b.L) - Int.toNat (0 : Int)) (revR can2 b.L)) - Int.toNat (0 : Int)) (updF (crestU (ix (List.getD (List.take (Int.toNat (↑(a.L.length + 1) : Int)) (begR a.L)) a.L.length []) 0)) (Int.toNat (0 : Int)) (List.length (revR can2 b.L) - Int.toNat (0 : Int)) (revR can2 b.L)))), D.i 0])))))))))) (T.need (yes (1 ≤ a.L.length ∧ a.L.length ≤ 2000 ∧ (↑(Int.toNat (a.L.length : Int)) : Int) = (a.L.length : Int))) (T.need (yes (1 ≤ b.L.length ∧ b.L.length ≤ 2000 ∧ (↑(Int.toNat (b.L.length : Int)) : Int) = (b.L.length : Int))) (T.need (yes (1 ≤ c.L.length ∧ c.L.length ≤ 2000 ∧ (↑(Int.toNat (c.L.length : Int)) : Int) = (c.L.length : Int))) (T.need (yes ((↑(0 + 1 + 1 + 1) : Int) = (3 : Int) ∧ (↑(Int.toNat (a.L.length : Int)) : Int) = (↑(List.length (revR can5 a.L)) : Int) ∧ (↑(Int.toNat (b.L.length : Int)) : Int) = (↑(List.length (revR can2 b.L)) : Int) ∧ (↑(Int.toNat (c.L.length : Int)) : Int) = (↑(List.length (revR can3 c.L)) : Int) ∧ stG (↑(Int.toNat (a.L.length : Int)) : Int) (0 : Int) (revR can5 a.L))) (T.need (yes ((↑(0 + 1 + 1 + 1) : Int) = (3 : Int) ∧ (↑(Int.toNat (↑(List.length (revR can5 a.L)) : Int)) : Int) = (↑(List.length (updF turnU (Int.toNat (0 : Int)) (List.length (revR can5 a.L) - Int.toNat (0 : Int)) (revR can5 a.L))) : Int) ∧ (↑(Int.toNat (↑(List.length (revR can2 b.L)) : Int)) : Int) = (↑(List.length (revR can2 b.L)) : Int) ∧ (↑(Int.toNat (↑(List.length (revR can3 c.L)) : Int)) : Int) = (↑(List.length (revR can3 c.L)) : Int) ∧ stG (↑(Int.toNat (↑(List.length (revR can2 b.L)) : Int)) : Int) (0 : Int) (revR can2 b.L))) (T.need (yes ((↑(0 + 1 + 1 + 1) : Int) = (3 : Int) ∧ (↑(Int.toNat (↑(List.length (updF turnU (Int.toNat (0 : Int)) (List.length (revR can5 a.L) - Int.toNat (0 : Int)) (revR can5 a.L))) : Int)) : Int) = (↑(List.length (updF turnU (Int.toNat (0 : Int)) (List.length (revR can5 a.L) - Int.toNat (0 : Int)) (revR can5 a.L))) : Int) ∧ (↑(Int.toNat (↑(List.length (revR can2 b.L)) : Int)) : Int) = (↑(List.length (updF (crestU (ix (List.getD (List.take (Int.toNat (↑(a.L.length + 1) : Int)) (begR a.L)) a.L.length []) 0)) (Int.toNat (0 : Int)) (List.length (revR can2 b.L) - Int.toNat (0 : Int)) (revR can2 b.L))) : Int) ∧ (↑(Int.toNat (↑(List.length (revR can3 c.L)) : Int)) : Int) = (↑(List.length (revR can3 c.L)) : Int) ∧ stG (↑(Int.toNat (↑(List.length (revR can3 c.L)) : Int)) : Int) (0 : Int) (revR can3 c.L))) (T.need (decide (Int.toNat (↑(List.length (updF turnU (Int.toNat (0 : Int)) (List.length (revR can5 a.L) - Int.toNat (0 : Int)) (revR can5 a.L))) : Int) ≤ List.length (updF turnU (Int.toNat (0 : Int)) (List.length (revR can5 a.L) - Int.toNat (0 : Int)) (revR can5 a.L)))) (T.need (decide (Int.toNat (↑(List.length (updF (crestU (ix (List.getD (List.take (Int.toNat (↑(a.L.length + 1) : Int)) (begR a.L)) a.L.length []) 0)) (Int.toNat (0 : Int)) (List.length (revR can2 b.L) - Int.toNat (0 : Int)) (revR can2 b.L))) : Int) ≤ List.length (updF (crestU (ix (List.getD (List.take (Int.toNat (↑(a.L.length + 1) : Int)) (begR a.L)) a.L.length []) 0)) (Int.toNat (0 : Int)) (List.length (revR can2 b.L) - Int.toNat (0 : Int)) (revR can2 b.L)))) (T.need (decide (Int.toNat (↑(List.length (revR can3 c.L)) : Int) ≤ List.length (updF (juncU (ix (List.getD (List.take (Int.toNat (↑(a.L.length + 1) : Int)) (begR a.L)) a.L.length []) 0)) (Int.toNat (0 : Int)) (List.length (revR can3 c.L) - Int.toNat (0 : Int)) (revR can3 c.L)))) (T.leaf [D.l (List.take (Int.toNat (↑(List.length (updF turnU (Int.toNat (0 : Int)) (List.length (revR can5 a.L) - Int.toNat (0 : Int)) (revR can5 a.L))) : Int)) (updF turnU (Int.toNat (0 : Int)) (List.length (revR can5 a.L) - Int.toNat (0 : Int)) (revR can5 a.L))), D.l (List.take (Int.toNat (↑(List.length (updF (crestU (ix (List.getD (List.take (Int.toNat (↑(a.L.length + 1) : Int)) (begR a.L)) a.L.length []) 0)) (Int.toNat (0 : Int)) (List.length (revR can2 b.L) - Int.toNat (0 : Int)) (revR can2 b.L))) : Int)) (updF (crestU (ix (List.getD (List.take (Int.toNat (↑(a.L.length + 1) : Int)) (begR a.L)) a.L.length []) 0)) (Int.toNat (0 : Int)) (List.length (revR can2 b.L) - Int.toNat (0 : Int)) (revR can2 b.L))), D.l (List.take (Int.toNat (↑(List.length (revR can3 c.L)) : Int)) (updF (juncU (ix (List.getD (List.take (Int.toNat (↑(a.L.length + 1) : Int)) (begR a.L)) a.L.length []) 0)) (Int.toNat (0 : Int)) (List.length (revR can3 c.L) - Int.toNat (0 : Int)) (revR can3 c.L))), D.i 0]))))))))))))))))))) (T.ite true (T.leaf [D.l [], D.l [], D.l [], D.i 2]) (T.need (yes (manyP a.L)) (T.need (decide (Int.toNat (↑(a.L.length + 1) : Int) ≤ List.length (begR a.L))) (T.need (yes (manyP a.L ∧ List.take (Int.toNat (↑(a.L.length + 1) : Int)) (begR a.L) = begR a.L)) (T.need (yes (a.L ≠ [] ∧ a.L.length ≤ 1073741824)) (T.need (yes (b.L.length ≤ 1073741824)) (T.ite (List.isEmpty b.L) (T.need (yes (c.L.length ≤ 1073741824)) (T.ite (List.isEmpty c.L) (T.need (yes (1 ≤ a.L.length ∧ a.L.length ≤ 2000 ∧ (↑(Int.toNat (a.L.length : Int)) : Int) = (a.L.length : Int))) (T.need (yes ((↑0 : Int) = (0 : Int) ∧ (↑(Int.toNat (a.L.length : Int)) : Int) = (↑(List.length (revR can5 a.L)) : Int) ∧ stG (↑(Int.toNat (a.L.length : Int)) : Int) (0 : Int) (revR can5 a.L))) (T.need (yes ((↑0 : Int) = (0 : Int) ∧ (↑(Int.toNat (↑(List.length (revR can5 a.L)) : Int)) : Int) = (↑(List.length (updF turnU (Int.toNat (0 : Int)) (List.length (revR can5 a.L) - Int.toNat (0 : Int)) (revR can5 a.L))) : Int) ∧ (↑0 : Int) = (0 : Int) ∧ (0 : Int) = (0 : Int))) (T.need (yes ((↑0 : Int) = (0 : Int) ∧ (↑(Int.toNat (↑(List.length (updF turnU (Int.toNat (0 : Int)) (List.length (revR can5 a.L) - Int.toNat (0 : Int)) (revR can5 a.L))) : Int)) : Int) = (↑(List.length (updF turnU (Int.toNat (0 : Int)) (List.length (revR can5 a.L) - Int.toNat (0 : Int)) (revR can5 a.L))) : Int) ∧ (↑0 : Int) = (0 : Int) ∧ (0 : Int) = (0 : Int))) (T.need (decide (Int.toNat (↑(List.length (updF turnU (Int.toNat (0 : Int)) (List.length (revR can5 a.L) - Int.toNat (0 : Int)) (revR can5 a.L))) : Int) ≤ List.length (updF turnU (Int.toNat (0 : Int)) (List.length (revR can5 a.L) - Int.toNat (0 : Int)) (revR can5 a.L)))) (T.leaf [D.l (List.take (Int.toNat (↑(List.length (updF turnU (Int.toNat (0 : Int)) (List.length (revR can5 a.L) - Int.toNat (0 : Int)) (revR can5 a.L))) : Int)) (updF turnU (Int.toNat (0 : Int)) (List.length (revR can5 a.L) - Int.toNat (0 : Int)) (revR can5 a.L))), D.l [], D.l [], D.i 0])))))) (T.need (yes (1 ≤ a.L.length ∧ a.L.length ≤ 2000 ∧ (↑(Int.toNat (a.L.length : Int)) : Int) = (a.L.length : Int))) (T.need (yes (1 ≤ c.L.length ∧ c.L.length ≤ 2000 ∧ (↑(Int.toNat (c.L.length : Int)) : Int) = (c.L.length : Int))) (T.need (yes (((↑(0 + 1) : Int) = (1 : Int) ∨ (↑(0 + 1) : Int) = (2 : Int)) ∧ (↑(Int.toNat (a.L.length : Int)) : Int) = (↑(List.length (revR can5 a.L)) : Int) ∧ (↑(Int.toNat (c.L.length : Int)) : Int) = (↑(List.length (revR can3 c.L)) : Int) ∧ stG (↑(Int.toNat (a.L.length : Int)) : Int) (0 : Int) (revR can5 a.L))) (T.need (yes (((↑(0 + 1) : Int) = (1 : Int) ∧ (↑0 : Int) = (0 : Int) ∧ (0 : Int) = (0 : Int) ∨ (↑(0 + 1) : Int) = (2 : Int) ∧ stG (↑0 : Int) (0 : Int) (revR can3 c.L)) ∧ (↑(Int.toNat (↑(List.length (revR can5 a.L)) : Int)) : Int) = (↑(List.length (updF turnU (Int.toNat (0 : Int)) (List.length (revR can5 a.L) - Int.toNat (0 : Int)) (revR can5 a.L))) : Int) ∧ (↑(Int.toNat (↑(List.length (revR can3 c.L)) : Int)) : Int) = (↑(List.length (revR can3 c.L)) : Int))) (T.ite true (T.need (yes (((↑(0 + 1) : Int) = (2 : Int) ∧ (↑(Int.toNat (↑(List.length (revR can3 c.L)) : Int)) : Int) = (0 : Int) ∧ (0 : Int) = (0 : Int) ∨ (↑(0 + 1) : Int) = (1 : Int) ∧ stG (↑(Int.toNat (↑(List.length (revR can3 c.L)) : Int)) : Int) (0 : Int) (revR can3 c.L)) ∧ (↑(Int.toNat (↑(List.length (updF turnU (Int.toNat (0 : Int)) (List.length (revR can5 a.L) - Int.toNat (0 : Int)) (revR can5 a.L))) : Int)) : Int) = (↑(List.length (updF turnU (Int.toNat (0 : Int)) (List.length (revR can5 a.L) - Int.toNat (0 : Int)) (revR can5 a.L))) : Int) ∧ (↑(Int.toNat (↑(List.length (revR can3 c.L)) : Int)) : Int) = (↑(List.length (revR can3 c.L)) : Int))) (T.ite false (T.need (decide (Int.toNat (↑(List.length (updF turnU (Int.toNat (0 : Int)) (List.length (revR can5 a.L) - Int.toNat (0 : Int)) (revR can5 a.L))) : Int) ≤ List.length (updF turnU (Int.toNat (0 : Int)) (List.length (revR can5 a.L) - Int.toNat (0 : Int)) (revR can5 a.L)))) (T.need (decide (Int.toNat (↑(List.length (revR can3 c.L)) : Int) ≤ List.length (revR can3 c.L))) (T.leaf [D.l (List.take (Int.toNat (↑(List.length (updF turnU (Int.toNat (0 : Int)) (List.length (revR can5 a.L) - Int.toNat (0 : Int)) (revR can5 a.L))) : Int)) (updF turnU (Int.toNat (0 : Int)) (List.length (revR can5 a.L) - Int.toNat (0 : Int)) (revR can5 a.L))), D.l (List.take (Int.toNat (↑(List.length (revR can3 c.L)) : Int)) (revR can3 c.L)), D.l [], D.i 0]))) (T.need (decide (Int.toNat (↑(List.length (updF turnU (Int.toNat (0 : Int)) (List.length (revR can5 a.L) - Int.toNat (0 : Int)) (revR can5 a.L))) : Int) ≤ List.length (updF turnU (Int.toNat (0 : Int)) (List.length (revR can5 a.L) - Int.toNat (0 : Int)) (revR can5 a.L)))) (T.need (decide (Int.toNat (↑(List.length (revR can3 c.L)) : Int) ≤ List.length (updF (juncU (ix (List.getD (List.take (Int.toNat (↑(a.L.length + 1) : Int)) (begR a.L)) a.L.length []) 0)) (Int.toNat (0 : Int)) (List.length (revR can3 c.L) - Int.toNat (0 : Int)) (revR can3 c.L)))) (T.leaf [D.l (List.take (Int.toNat (↑(List.length (updF turnU (Int.toNat (0 : Int)) (List.length (revR can5 a.L) - Int.toNat (0 : Int)) (revR can5 a.L))) : Int)) (updF turnU (Int.toNat (0 : Int)) (List.length (revR can5 a.L) - Int.toNat (0 : Int)) (revR can5 a.L))), D.l [], D.l (List.take (Int.toNat (↑(List.length (revR can3 c.L)) : Int)) (updF (juncU (ix (List.getD (List.take (Int.toNat (↑(a.L.length + 1) : Int)) (begR a.L)) a.L.length []) 0)) (Int.toNat (0 : Int)) (List.length (revR can3 c.L) - Int.toNat (0 : Int)) (revR can3 c.L))), D.i 0]))))) (T.need (yes (((↑(0 + 1 + 1) : Int) = (2 : Int) ∧ (↑0 : Int) = (0 : Int) ∧ (0 : Int) = (0 : Int) ∨ (↑(0 + 1 + 1) : Int) = (1 : Int) ∧ stG (↑0 : Int) (0 : Int) (updF (crestU (ix (List.getD (List.take (Int.toNat (↑(a.L.length + 1) : Int)) (begR a.L)) a.L.length []) 0)) (Int.toNat (0 : Int)) (List.length (revR can3 c.L) - Int.toNat (0 : Int)) (revR can3 c.L))) ∧ (↑(Int.toNat (↑(List.length (updF turnU (Int.toNat (0 : Int)) (List.length (revR can5 a.L) - Int.toNat (0 : Int)) (revR can5 a.L))) : Int)) : Int) = (↑(List.length (updF turnU (Int.toNat (0 : Int)) (List.length (revR can5 a.L) - Int.toNat (0 : Int)) (revR can5 a.L))) : Int) ∧ (↑(Int.toNat (↑(List.length (revR can3 c.L)) : Int)) : Int) = (↑(List.length (updF (crestU (ix (List.getD (List.take (Int.toNat (↑(a.L.length + 1) : Int)) (begR a.L)) a.L.length []) 0)) (Int.toNat (0 : Int)) (List.length (revR can3 c.L) - Int.toNat (0 : Int)) (revR can3 c.L))) : Int))) (T.ite true (T.need (decide (Int.toNat (↑(List.length (updF turnU (Int.toNat (0 : Int)) (List.length (revR can5 a.L) - Int.toNat (0 : Int)) (revR can5 a.L))) : Int) ≤ List.length (updF turnU (Int.toNat (0 : Int)) (List.length (revR can5 a.L) - Int.toNat (0 : Int)) (revR can5 a.L)))) (T.need (decide (Int.toNat (↑(List.length (updF (crestU (ix (List.getD (List.take (Int.toNat (↑(a.L.length + 1) : Int)) (begR a.L)) a.L.length []) 0)) (Int.toNat (0 : Int)) (List.length (revR can3 c.L) - Int.toNat (0 : Int)) (revR can3 c.L))) : Int) ≤ List.length (updF (crestU (ix (List.getD (List.take (Int.toNat (↑(a.L.length + 1) : Int)) (begR a.L)) a.L.length []) 0)) (Int.toNat (0 : Int)) (List.length (revR can3 c.L) - Int.toNat (0 : Int)) (revR can3 c.L)))) (T.leaf [D.l (List.take (Int.toNat (↑(List.length (updF turnU (Int.toNat (0 : Int)) (List.length (revR can5 a.L) - Int.toNat (0 : Int)) (revR can5 a.L))) : Int)) (updF turnU (Int.toNat (0 : Int)) (List.length (revR can5 a.L) - Int.toNat (0 : Int)) (revR can5 a.L))), D.l (List.take (Int.toNat (↑(List.length (updF (crestU (ix (List.getD (List.take (Int.toNat (↑(a.L.length + 1) : Int)) (begR a.L)) a.L.length []) 0)) (Int.toNat (0 : Int)) (List.length (revR can3 c.L) - Int.toNat (0 : Int)) (revR can3 c.L))) : Int)) (updF (crestU (ix (List.getD (List.take (Int.toNat (↑(a.L.length + 1) : Int)) (begR a.L)) a.L.length []) 0)) (Int.toNat (0 : Int)) (List.length (revR can3 c.L) - Int.toNat (0 : Int)) (revR can3 c.L))), D.l [], D.i 0]))) (T.need (decide (Int.toNat (↑(List.length (updF turnU (Int.toNat (0 : Int)) (List.length (revR can5 a.L) - Int.toNat (0 : Int)) (revR can5 a.L))) : Int) ≤ List.length (updF turnU (Int.toNat (0 : Int)) (List.length (revR can5 a.L) - Int.toNat (0 : Int)) (revR can5 a.L)))) (T.need (decide (Int.toNat (↑(List.length (updF (crestU (ix (List.getD (List.take (Int.toNat (↑(a.L.length + 1) : Int)) (begR a.L)) a.L.length []) 0)) (Int.toNat (0 : Int)) (List.length (revR can3 c.L) - Int.toNat (0 : Int)) (revR can3 c.L))) : Int) ≤ List.length (updF (juncU (ix (List.getD (List.take (Int.toNat (↑(a.L.length + 1) : Int)) (begR a.L)) a.L.length []) 0)) (Int.toNat (0 : Int)) (List.length (updF (crestU (ix (List.getD (List.take (Int.toNat (↑(a.L.length + 1) : Int)) (begR a.L)) a.L.length []) 0)) (Int.toNat (0 : Int)) (List.length (revR can3 c.L) - Int.toNat (0 : Int)) (revR can3 c.L)) - Int.toNat (0 : Int)) (updF (crestU (ix (List.getD (List.take (Int.toNat (↑(a.L.length + 1) : Int)) (begR a.L)) a.L.length []) 0)) (Int.toNat (0 : Int)) (List.length (revR can3 c.L) - Int.toNat (0 : Int)) (revR can3 c.L))))) (T.leaf [D.l (List.take (Int.toNat (↑(List.length (updF turnU (Int.toNat (0 : Int)) (List.length (revR can5 a.L) - Int.toNat (0 : Int)) (revR can5 a.L))) : Int)) (updF turnU (Int.toNat (0 : Int)) (List.length (revR can5 a.L) - Int.toNat (0 : Int)) (revR can5 a.L))), D.l [], D.l (List.take (Int.toNat (↑(List.length (updF (crestU (ix (List.getD (List.take (Int.toNat (↑(a.L.length + 1) : Int)) (begR a.L)) a.L.length []) 0)) (Int.toNat (0 : Int)) (List.length (revR can3 c.L) - Int.toNat (0 : Int)) (revR can3 c.L))) : Int)) (updF (juncU (ix (List.getD (List.take (Int.toNat (↑(a.L.length + 1) : Int)) (begR a.L)) a.L.length []) 0)) (Int.toNat (0 : Int)) (List.length (updF (crestU (ix (List.getD (List.take (Int.toNat (↑(a.L.length + 1) : Int)) (begR a.L)) a.L.length []) 0)) (Int.toNat (0 : Int)) (List.length (revR can3 c.L) - Int.toNat (0 : Int)) (revR can3 c.L)) - Int.toNat (0 : Int)) (updF (crestU (ix (List.getD (List.take (Int.toNat (↑(a.L.length + 1) : Int)) (begR a.L)) a.L.length []) 0)) (Int.toNat (0 : Int)) (List.length (revR can3 c.L) - Int.toNat (0 : Int)) (revR can3 c.L)))), D.i 0])))))))))))) (T.need (yes (c.L.length ≤ 1073741824)) (T.ite (List.isEmpty c.L) (T.need (yes (1 ≤ a.L.length ∧ a.L.length ≤ 2000 ∧ (↑(Int.toNat (a.L.length : Int)) : Int) = (a.L.length : Int))) (T.need (yes (1 ≤ b.L.length ∧ b.L.length ≤ 2000 ∧ (↑(Int.toNat (b.L.length : Int)) : Int) = (b.L.length : Int))) (T.need (yes (((↑(0 + 1 + 1) : Int) = (1 : Int) ∨ (↑(0 + 1 + 1) : Int) = (2 : Int)) ∧ (↑(Int.toNat (a.L.length : Int)) : Int) = (↑(List.length (revR can5 a.L)) : Int) ∧ (↑(Int.toNat (b.L.length : Int)) : Int) = (↑(List.length (revR can2 b.L)) : Int) ∧ stG (↑(Int.toNat (a.L.length : Int)) : Int) (0 : Int) (revR can5 a.L))) (T.need (yes (((↑(0 + 1 + 1) : Int) = (1 : Int) ∧ (↑(Int.toNat (↑(List.length (revR can2 b.L)) : Int)) : Int) = (0 : Int) ∧ (0 : Int) = (0 : Int) ∨ (↑(0 + 1 + 1) : Int) = (2 : Int) ∧ stG (↑(Int.toNat (↑(List.length (revR can2 b.L)) : Int)) : Int) (0 : Int) (revR can2 b.L)) ∧ (↑(Int.toNat (↑(List.length (revR can5 a.L)) : Int)) : Int) = (↑(List.length (updF turnU (Int.toNat (0 : Int)) (List.length (revR can5 a.L) - Int.toNat (0 : Int)) (revR can5 a.L))) : Int) ∧ (↑(Int.toNat (↑(List.length (revR can2 b.L)) : Int)) : Int) = (↑(List.length (revR can2 b.L)) : Int))) (T.ite false (T.need (yes (((↑(0 + 1) : Int) = (2 : Int) ∧ (↑(Int.toNat (↑(List.length (revR can2 b.L)) : Int)) : Int) = (0 : Int) ∧ (0 : Int) = (0 : Int) ∨ (↑(0 + 1) : Int) = (1 : Int) ∧ stG (↑(Int.toNat (↑(List.length (revR can2 b.L)) : Int)) : Int) (0 : Int) (revR can2 b.L)) ∧ (↑(Int.toNat (↑(List.length (updF turnU (Int.toNat (0 : Int)) (List.length (revR can5 a.L) - Int.toNat (0 : Int)) (revR can5 a.L))) : Int)) : Int) = (↑(List.length (updF turnU (Int.toNat (0 : Int)) (List.length (revR can5 a.L) - Int.toNat (0 : Int)) (revR can5 a.L))) : Int) ∧ (↑(Int.toNat (↑(List.length (revR can2 b.L)) : Int)) : Int) = (↑(List.length (revR can2 b.L)) : Int))) (T.ite false (T.need (decide (Int.toNat (↑(List.length (updF turnU (Int.toNat (0 : Int)) (List.length (revR can5 a.L) - Int.toNat (0 : Int)) (revR can5 a.L))) : Int) ≤ List.length (updF turnU (Int.toNat (0 : Int)) (List.length (revR can5 a.L) - Int.toNat (0 : Int)) (revR can5 a.L)))) (T.need (decide (Int.toNat (↑(List.length (revR can2 b.L)) : Int) ≤ List.length (revR can2 b.L))) (T.leaf [D.l (List.take (Int.toNat (↑(List.length (updF turnU (Int.toNat (0 : Int)) (List.length (revR can5 a.L) - Int.toNat (0 : Int)) (revR can5 a.L))) : Int)) (updF turnU (Int.toNat (0 : Int)) (List.length (revR can5 a.L) - Int.toNat (0 : Int)) (revR can5 a.L))), D.l (List.take (Int.toNat (↑(List.length (revR can2 b.L)) : Int)) (revR can2 b.L)), D.l [], D.i 0]))) (T.need (decide (Int.toNat (↑(List.length (updF turnU (Int.toNat (0 : Int)) (List.length (revR can5 a.L) - Int.toNat (0 : Int)) (revR can5 a.L))) : Int) ≤ List.length (updF turnU (Int.toNat (0 : Int)) (List.length (revR can5 a.L) - Int.toNat (0 : Int)) (revR can5 a.L)))) (T.need (decide (Int.toNat (↑(List.length (revR can2 b.L)) : Int) ≤ List.length (updF (juncU (ix (List.getD (List.take (Int.toNat (↑(a.L.length + 1) : Int)) (begR a.L)) a.L.length []) 0)) (Int.toNat (0 : Int)) (List.length (revR can2 b.L) - Int.toNat (0 : Int)) (revR can2 b.L)))) (T.leaf [D.l (List.take (Int.toNat (↑(List.length (updF turnU (Int.toNat (0 : Int)) (List.length (revR can5 a.L) - Int.toNat (0 : Int)) (revR can5 a.L))) : Int)) (updF turnU (Int.toNat (0 : Int)) (List.length (revR can5 a.L) - Int.toNat (0 : Int)) (revR can5 a.L))), D.l [], D.l (List.take (Int.toNat (↑(List.length (revR can2 b.L)) : Int)) (updF (juncU (ix (List.getD (List.take (Int.toNat (↑(a.L.length + 1) : Int)) (begR a.L)) a.L.length []) 0)) (Int.toNat (0 : Int)) (List.length (revR can2 b.L) - Int.toNat (0 : Int)) (revR can2 b.L))), D.i 0]))))) (T.need (yes (((↑(0 + 1 + 1) : Int) = (2 : Int) ∧ (↑0 : Int) = (0 : Int) ∧ (0 : Int) = (0 : Int) ∨ (↑(0 + 1 + 1) : Int) = (1 : Int) ∧ stG (↑0 : Int) (0 : Int) (updF (crestU (ix (List.getD (List.take (Int.toNat (↑(a.L.length + 1) : Int)) (begR a.L)) a.L.length []) 0)) (Int.toNat (0 : Int)) (List.length (revR can2 b.L) - Int.toNat (0 : Int)) (revR can2 b.L))) ∧ (↑(Int.toNat (↑(List.length (updF turnU (Int.toNat (0 : Int)) (List.length (revR can5 a.L) - Int.toNat (0 : Int)) (revR can5 a.L))) : Int)) : Int) = (↑(List.length (updF turnU (Int.toNat (0 : Int)) (List.length (revR can5 a.L) - Int.toNat (0 : Int)) (revR can5 a.L))) : Int) ∧ (↑(Int.toNat (↑(List.length (revR can2 b.L)) : Int)) : Int) = (↑(List.length (updF (crestU (ix (List.getD (List.take (Int.toNat (↑(a.L.length + 1) : Int)) (begR a.L)) a.L.length []) 0)) (Int.toNat (0 : Int)) (List.length (revR can2 b.L) - Int.toNat (0 : Int)) (revR can2 b.L))) : Int))) (T.ite true (T.need (decide (Int.toNat (↑(List.length (updF turnU (Int.toNat (0 : Int)) (List.length (revR can5 a.L) - Int.toNat (0 : Int)) (revR can5 a.L))) : Int) ≤ List.length (updF turnU (Int.toNat (0 : Int)) (List.length (revR can5 a.L) - Int.toNat (0 : Int)) (revR can5 a.L)))) (T.need (decide (Int.toNat (↑(List.length (updF (crestU (ix (List.getD (List.take (Int.toNat (↑(a.L.length + 1) : Int)) (begR a.L)) a.L.length []) 0)) (Int.toNat (0 : Int)) (List.length (revR can2 b.L) - Int.toNat (0 : Int)) (revR can2 b.L))) : Int) ≤ List.length (updF (crestU (ix (List.getD (List.take (Int.toNat (↑(a.L.length + 1) : Int)) (begR a.L)) a.L.length []) 0)) (Int.toNat (0 : Int)) (List.length (revR can2 b.L) - Int.toNat (0 : Int)) (revR can2 b.L)))) (T.leaf [D.l (List.take (Int.toNat (↑(List.length (updF turnU (Int.toNat (0 : Int)) (List.length (revR can5 a.L) - Int.toNat (0 : Int)) (revR can5 a.L))) : Int)) (updF turnU (Int.toNat (0 : Int)) (List.length (revR can5 a.L) - Int.toNat (0 : Int)) (revR can5 a.L))), D.l (List.take (Int.toNat (↑(List.length (updF (crestU (ix (List.getD (List.take (Int.toNat (↑(a.L.length + 1) : Int)) (begR a.L)) a.L.length []) 0)) (Int.toNat (0 : Int)) (List.length (revR can2 b.L) - Int.toNat (0 : Int)) (revR can2 b.L))) : Int)) (updF (crestU (ix (List.getD (List.take (Int.toNat (↑(a.L.length + 1) : Int)) (begR a.L)) a.L.length []) 0)) (Int.toNat (0 : Int)) (List.length (revR can2 b.L) - Int.toNat (0 : Int)) (revR can2 b.L))), D.l [], D.i 0]))) (T.need (decide (Int.toNat (↑(List.length (updF turnU (Int.toNat (0 : Int)) (List.length (revR can5 a.L) - Int.toNat (0 : Int)) (revR can5 a.L))) : Int) ≤ List.length (updF turnU (Int.toNat (0 : Int)) (List.length (revR can5 a.L) - Int.toNat (0 : Int)) (revR can5 a.L)))) (T.need (decide (Int.toNat (↑(List.length (updF (crestU (ix (List.getD (List.take (Int.toNat (↑(a.L.length + 1) : Int)) (begR a.L)) a.L.length []) 0)) (Int.toNat (0 : Int)) (List.length (revR can2 b.L) - Int.toNat (0 : Int)) (revR can2 b.L))) : Int) ≤ List.length (updF (juncU (ix (List.getD (List.take (Int.toNat (↑(a.L.length + 1) : Int)) (begR a.L)) a.L.length []) 0)) (Int.toNat (0 : Int)) (List.length (updF (crestU (ix (List.getD (List.take (Int.toNat (↑(a.L.length + 1) : Int)) (begR a.L)) a.L.length []) 0)) (Int.toNat (0 : Int)) (List.length (revR can2 b.L) - Int.toNat (0 : Int)) (revR can2 b.L)) - Int.toNat (0 : Int)) (updF (crestU (ix (List.getD (List.take (Int.toNat (↑(a.L.length + 1) : Int)) (begR a.L)) a.L.length []) 0)) (Int.toNat (0 : Int)) (List.length (revR can2 b.L) - Int.toNat (0 : Int)) (revR can2 b.L))))) (T.leaf [D.l (List.take (Int.toNat (↑(List.length (updF turnU (Int.toNat (0 : Int)) (List.length (revR can5 a.L) - Int.toNat (0 : Int)) (revR can5 a.L))) : Int)) (updF turnU (Int.toNat (0 : Int)) (List.length (revR can5 a.L) - Int.toNat (0 : Int)) (revR can5 a.L))), D.l [], D.l (List.take (Int.toNat (↑(List.length (updF (crestU (ix (List.getD (List.take (Int.toNat (↑(a.L.length + 1) : Int)) (begR a.L)) a.L.length []) 0)) (Int.toNat (0 : Int)) (List.length (revR can2 b.L) - Int.toNat (0 : Int)) (revR can2 b.L))) : Int)) (updF (juncU (ix (List.getD (List.take (Int.toNat (↑(a.L.length + 1) : Int)) (begR a.L)) a.L.length []) 0)) (Int.toNat (0 : Int)) (List.length (updF (crestU (ix (List.getD (List.take (Int.toNat (↑(a.L.length + 1) : Int)) (begR a.L)) a.L.length []) 0)) (Int.toNat (0 : Int)) (List.length (revR can2 b.L) - Int.toNat (0 : Int)) (revR can2 b.L)) - Int.toNat (0 : Int)) (updF (crestU (ix (List.getD (List.take (Int.toNat (↑(a.L.length + 1) : Int)) (begR a.L)) a.L.length []) 0)) (Int.toNat (0 : Int)) (List.length (revR can2 b.L) - Int.toNat (0 : Int)) (revR can2 b.L)))), D.i 0])))))))))) (T.need (yes (1 ≤ a.L.length ∧ a.L.length ≤ 2000 ∧ (↑(Int.toNat (a.L.length : Int)) : Int) = (a.L.length : Int))) (T.need (yes (1 ≤ b.L.length ∧ b.L.length ≤ 2000 ∧ (↑(Int.toNat (b.L.length : Int)) : Int) = (b.L.length : Int))) (T.need (yes (1 ≤ c.L.length ∧ c.L.length ≤ 2000 ∧ (↑(Int.toNat (c.L.length : Int)) : Int) = (c.L.length : Int))) (T.need (yes ((↑(0 + 1 + 1 + 1) : Int) = (3 : Int) ∧ (↑(Int.toNat (a.L.length : Int)) : Int) = (↑(List.length (revR can5 a.L)) : Int) ∧ (↑(Int.toNat (b.L.length : Int)) : Int) = (↑(List.length (revR can2 b.L)) : Int) ∧ (↑(Int.toNat (c.L.length : Int)) : Int) = (↑(List.length (revR can3 c.L)) : Int) ∧ stG (↑(Int.toNat (a.L.length : Int)) : Int) (0 : Int) (revR can5 a.L))) (T.need (yes ((↑(0 + 1 + 1 + 1) : Int) = (3 : Int) ∧ (↑(Int.toNat (↑(List.length (revR can5 a.L)) : Int)) : Int) = (↑(List.length (updF turnU (Int.toNat (0 : Int)) (List.length (revR can5 a.L) - Int.toNat (0 : Int)) (revR can5 a.L))) : Int) ∧ (↑(Int.toNat (↑(List.length (revR can2 b.L)) : Int)) : Int) = (↑(List.length (revR can2 b.L)) : Int) ∧ (↑(Int.toNat (↑(List.length (revR can3 c.L)) : Int)) : Int) = (↑(List.length (revR can3 c.L)) : Int) ∧ stG (↑(Int.toNat (↑(List.length (revR can2 b.L)) : Int)) : Int) (0 : Int) (revR can2 b.L))) (T.need (yes ((↑(0 + 1 + 1 + 1) : Int) = (3 : Int) ∧ (↑(Int.toNat (↑(List.length (updF turnU (Int.toNat (0 : Int)) (List.length (revR can5 a.L) - Int.toNat (0 : Int)) (revR can5 a.L))) : Int)) : Int) = (↑(List.length (updF turnU (Int.toNat (0 : Int)) (List.length (revR can5 a.L) - Int.toNat (0 : Int)) (revR can5 a.L))) : Int) ∧ (↑(Int.toNat (↑(List.length (revR can2 b.L)) : Int)) : Int) = (↑(List.length (updF (crestU (ix (List.getD (List.take (Int.toNat (↑(a.L.length + 1) : Int)) (begR a.L)) a.L.length []) 0)) (Int.toNat (0 : Int)) (List.length (revR can2 b.L) - Int.toNat (0 : Int)) (revR can2 b.L))) : Int) ∧ (↑(Int.toNat (↑(List.length (revR can3 c.L)) : Int)) : Int) = (↑(List.length (revR can3 c.L)) : Int) ∧ stG (↑(Int.toNat (↑(List.length (revR can3 c.L)) : Int)) : Int) (0 : Int) (revR can3 c.L))) (T.need (decide (Int.toNat (↑(List.length (updF turnU (Int.toNat (0 : Int)) (List.length (revR can5 a.L) - Int.toNat (0 : Int)) (revR can5 a.L))) : Int) ≤ List.length (updF turnU (Int.toNat (0 : Int)) (List.length (revR can5 a.L) - Int.toNat (0 : Int)) (revR can5 a.L)))) (T.need (decide (Int.toNat (↑(List.length (updF (crestU (ix (List.getD (List.take (Int.toNat (↑(a.L.length + 1) : Int)) (begR a.L)) a.L.length []) 0)) (Int.toNat (0 : Int)) (List.length (revR can2 b.L) - Int.toNat (0 : Int)) (revR can2 b.L))) : Int) ≤ List.length (updF (crestU (ix (List.getD (List.take (Int.toNat (↑(a.L.length + 1) : Int)) (begR a.L)) a.L.length []) 0)) (Int.toNat (0 : Int)) (List.length (revR can2 b.L) - Int.toNat (0 : Int)) (revR can2 b.L)))) (T.need (decide (Int.toNat (↑(List.length (revR can3 c.L)) : Int) ≤ List.length (updF (juncU (ix (List.getD (List.take (Int.toNat (↑(a.L.length + 1) : Int)) (begR a.L)) a.L.length []) 0)) (Int.toNat (0 : Int)) (List.length (revR can3 c.L) - Int.toNat (0 : Int)) (revR can3 c.L)))) (T.leaf [D.l (List.take (Int.toNat (↑(List.length (updF turnU (Int.toNat (0 : Int)) (List.length (revR can5 a.L) - Int.toNat (0 : Int)) (revR can5 a.L))) : Int)) (updF turnU (Int.toNat (0 : Int)) (List.length (revR can5 a.L) - Int.toNat (0 : Int)) (revR can5 a.L))), D.l (List.take (Int.toNat (↑(List.length (updF (crestU (ix (List.getD (List.take (Int.toNat (↑(a.L.length + 1) : Int)) (begR a.L)) a.L.length []) 0)) (Int.toNat (0 : Int)) (List.length (revR can2 b.L) - Int.toNat (0 : Int)) (revR can2 b.L))) : Int)) (updF (crestU (ix (List.getD (List.take (Int.toNat (↑(a.L.length + 1) : Int)) (begR a.L)) a.L.length []) 0)) (Int.toNat (0 : Int)) (List.length (revR can2 b.L) - Int.toNat (0 : Int)) (revR can2 b.L))), D.l (List.take (Int.toNat (↑(List.length (revR can3 c.L)) : Int)) (updF (juncU (ix (List.getD (List.take (Int.toNat (↑(a.L.length + 1) : Int)) (begR a.L)) a.L.length []) 0)) (Int.toNat (0 : Int)) (List.length (revR can3 c.L) - Int.toNat (0 : Int)) (revR can3 c.L))), D.i 0]))))))))))))))))))) := by kernel_rfl
theorem t20_10_0 (a b c d e : D) : roundT C tab20 20 (loopOf C.P 20 10) l20_10 [.i 0, a, b, c, d, e] =
 T.ite (decide (c.I < b.I)) (T.need (decide ((0 : Int) ≤ c.I ∧ c.I < (d.I.toNat : Int))) (T.need (decide (c.I.toNat < e.L.length)) (T.need (decide ((0 : Int) ≤ c.I ∧ c.I < (d.I.toNat : Int))) (T.need (decide (c.I.toNat < e.L.length)) (T.leaf (Rd.again [D.i 0, D.i a.I, D.i b.I, D.i (IntKind.i64.wrap (c.I + (1 : Int))), D.i (d.I.toNat : Int), D.l (List.set e.L c.I.toNat (updC (List.getD e.L c.I.toNat []) [D.i (IntKind.i64.wrap ((0 : Int) - D.I (List.getD (List.getD e.L c.I.toNat []) (0 + 1) default)))] (0 + 1) 0 (List.length [K.int IntKind.i64, K.int IntKind.i64, K.int IntKind.i64, K.int IntKind.i64, K.int IntKind.i64])))])))))) (T.leaf (Rd.out (Ex.exit 0) [D.i 0, D.i a.I, D.i (d.I.toNat : Int), D.l e.L])) := by kernel_rfl
theorem t20_10_1 (a b c d e f g : D) : roundT C tab20 20 (loopOf C.P 20 10) l20_10 [.i 1, a, b, c, d, e, f, g] =
 T.ite (decide (c.I < b.I)) (T.need (decide ((0 : Int) ≤ c.I ∧ c.I < (d.I.toNat : Int))) (T.need (decide (c.I.toNat < f.L.length)) (T.need (decide ((0 : Int) ≤ c.I ∧ c.I < (d.I.toNat : Int))) (T.need (decide (c.I.toNat < f.L.length)) (T.leaf (Rd.again [D.i 1, D.i a.I, D.i b.I, D.i (IntKind.i64.wrap (c.I + (1 : Int))), D.i (d.I.toNat : Int), D.i (e.I.toNat : Int), D.l (List.set f.L c.I.toNat (updC (List.getD f.L c.I.toNat []) [D.i (IntKind.i64.wrap ((0 : Int) - D.I (List.getD (List.getD f.L c.I.toNat []) (0 + 1) default)))] (0 + 1) 0 (List.length [K.int IntKind.i64, K.int IntKind.i64, K.int IntKind.i64, K.int IntKind.i64, K.int IntKind.i64]))), D.l g.L])))))) (T.leaf (Rd.out (Ex.exit 0) [D.i 1, D.i a.I, D.i (d.I.toNat : Int), D.i (e.I.toNat : Int), D.l f.L, D.l g.L])) := by kernel_rfl
theorem t20_10_2 (a b c d e f g : D) : roundT C tab20 20 (loopOf C.P 20 10) l20_10 [.i 2, a, b, c, d, e, f, g] =
 T.ite (decide (c.I < b.I)) (T.need (decide ((0 : Int) ≤ c.I ∧ c.I < (d.I.toNat : Int))) (T.need (decide (c.I.toNat < f.L.length)) (T.need (decide ((0 : Int) ≤ c.I ∧ c.I < (d.I.toNat : Int))) (T.need (decide (c.I.toNat < f.L.length)) (T.leaf (Rd.again [D.i 2, D.i a.I, D.i b.I, D.i (IntKind.i64.wrap (c.I + (1 : Int))), D.i (d.I.toNat : Int), D.i (e.I.toNat : Int), D.l (List.set f.L c.I.toNat (updC (List.getD f.L c.I.toNat []) [D.i (IntKind.i64.wrap ((0 : Int) - D.I (List.getD (List.getD f.L c.I.toNat []) (0 + 1) default)))] (0 + 1) 0 (List.length [K.int IntKind.i64, K.int IntKind.i64, K.int IntKind.i64, K.int IntKind.i64, K.int IntKind.i64]))), D.l g.L])))))) (T.leaf (Rd.out (Ex.exit 0) [D.i 2, D.i a.I, D.i (d.I.toNat : Int), D.i (e.I.toNat : Int), D.l f.L, D.l g.L])) := by kernel_rfl
theorem t20_10_3 (a b c d e f g h i : D) : roundT C tab20 20 (loopOf C.P 20 10) l20_10 [.i 3, a, b, c, d, e, f, g, h, i] =
 T.ite (decide (c.I < b.I)) (T.need (decide ((0 : Int) ≤ c.I ∧ c.I < (d.I.toNat : Int))) (T.need (decide (c.I.toNat < g.L.length)) (T.need (decide ((0 : Int) ≤ c.I ∧ c.I < (d.I.toNat : Int))) (T.need (decide (c.I.toNat < g.L.length)) (T.leaf (Rd.again [D.i 3, D.i a.I, D.i b.I, D.i (IntKind.i64.wrap (c.I + (1 : Int))), D.i (d.I.toNat : Int), D.i (e.I.toNat : Int), D.i (f.I.toNat : Int), D.l (List.set g.L c.I.toNat (updC (List.getD g.L c.I.toNat []) [D.i (IntKind.i64.wrap ((0 : Int) - D.I (List.getD (List.getD g.L c.I.toNat []) (0 + 1) default)))] (0 + 1) 0 (List.length [K.int IntKind.i64, K.int IntKind.i64, K.int IntKind.i64, K.int IntKind.i64, K.int IntKind.i64]))), D.l h.L, D.l i.L])))))) (T.leaf (Rd.out (Ex.exit 0) [D.i 3, D.i a.I, D.i (d.I.toNat : Int), D.i (e.I.toNat : Int), D.i (f.I.toNat : Int), D.l g.L, D.l h.L, D.l i.L])) := by kernel_rfl
theorem t20_15_0 (a b c d e : D) : roundT C tab20 20 (loopOf C.P 20 15) l20_15 [.i 0, a, b, c, d, e] =
 T.ite (decide (c.I < b.I)) T.fail (T.leaf (Rd.out (Ex.exit 2) [D.i 0, D.i a.I, D.i (d.I.toNat : Int), D.l e.L])) := by kernel_rfl
theorem t20_15_1 (a b c d e f g : D) : roundT C tab20 20 (loopOf C.P 20 15) l20_15 [.i 1, a, b, c, d, e, f, g] =
 T.ite (decide (c.I < b.I)) T.fail (T.leaf (Rd.out (Ex.exit 2) [D.i 1, D.i a.I, D.i (d.I.toNat : Int), D.i (e.I.toNat : Int), D.l f.L, D.l g.L])) := by kernel_rfl
theorem t20_15_2 (a b c d e f g : D) : roundT C tab20 20 (loopOf C.P 20 15) l20_15 [.i 2, a, b, c, d, e, f, g] =
 T.ite (decide (c.I < b.I)) (T.need (decide ((0 : Int) ≤ c.I ∧ c.I < (e.I.toNat : Int))) (T.need (decide (c.I.toNat < g.L.length)) (T.need (decide ((0 : Int) ≤ c.I ∧ c.I < (e.I.toNat : Int))) (T.need (decide (c.I.toNat < g.L.length)) (T.leaf (Rd.again [D.i 2, D.i a.I, D.i b.I, D.i (IntKind.i64.wrap (c.I + (1 : Int))), D.i (d.I.toNat : Int), D.i (e.I.toNat : Int), D.l f.L, D.l (List.set g.L c.I.toNat (updC (List.getD g.L c.I.toNat []) [D.i (IntKind.i64.wrap (a.I - D.I (List.getD (List.getD g.L c.I.toNat []) 0 default)))] (0 + 0) 0 (List.length [K.int IntKind.i64, K.int IntKind.i64])))])))))) (T.leaf (Rd.out (Ex.exit 2) [D.i 2, D.i a.I, D.i (d.I.toNat : Int), D.i (e.I.toNat : Int), D.l f.L, D.l g.L])) := by kernel_rfl
theorem t20_15_3 (a b c d e f g h i : D) : roundT C tab20 20 (loopOf C.P 20 15) l20_15 [.i 3, a, b, c, d, e, f, g, h, i] =
 T.ite (decide (c.I < b.I)) (T.need (decide ((0 : Int) ≤ c.I ∧ c.I < (e.I.toNat : Int))) (T.need (decide (c.I.toNat < h.L.length)) (T.need (decide ((0 : Int) ≤ c.I ∧ c.I < (e.I.toNat : Int))) (T.need (decide (c.I.toNat < h.L.length)) (T.leaf (Rd.again [D.i 3, D.i a.I, D.i b.I, D.i (IntKind.i64.wrap (c.I + (1 : Int))), D.i (d.I.toNat : Int), D.i (e.I.toNat : Int), D.i (f.I.toNat : Int), D.l g.L, D.l (List.set h.L c.I.toNat (updC (List.getD h.L c.I.toNat []) [D.i (IntKind.i64.wrap (a.I - D.I (List.getD (List.getD h.L c.I.toNat []) 0 default)))] (0 + 0) 0 (List.length [K.int IntKind.i64, K.int IntKind.i64]))), D.l i.L])))))) (T.leaf (Rd.out (Ex.exit 2) [D.i 3, D.i a.I, D.i (d.I.toNat : Int), D.i (e.I.toNat : Int), D.i (f.I.toNat : Int), D.l g.L, D.l h.L, D.l i.L])) := by kernel_rfl
theorem t20_20_0 (a b c d e : D) : roundT C tab20 20 (loopOf C.P 20 20) l20_20 [.i 0, a, b, c, d, e] =
 T.ite (decide (c.I < b.I)) T.fail (T.leaf (Rd.out (Ex.exit 4) [D.i 0, D.i (d.I.toNat : Int), D.l e.L])) := by kernel_rfl
theorem t20_20_1 (a b c d e f g : D) : roundT C tab20 20 (loopOf C.P 20 20) l20_20 [.i 1, a, b, c, d, e, f, g] =
 T.ite (decide (c.I < b.I)) (T.need (decide ((0 : Int) ≤ c.I ∧ c.I < (e.I.toNat : Int))) (T.need (decide (c.I.toNat < g.L.length)) (T.need (decide (c.I.toNat < g.L.length)) (T.need (decide (c.I.toNat < g.L.length)) (T.need (decide (c.I.toNat < g.L.length)) (T.need (decide (c.I.toNat < List.length (List.set g.L c.I.toNat (updC (List.getD g.L c.I.toNat []) [D.i (IntKind.i64.wrap (a.I - D.I (List.getD (List.getD g.L c.I.toNat []) 0 default)))] (0 + 0) 0 (List.length [K.int IntKind.i64, K.int IntKind.i64, K.int IntKind.i64]))))) (T.leaf (Rd.again [D.i 1, D.i a.I, D.i b.I, D.i (IntKind.i64.wrap (c.I + (1 : Int))), D.i (d.I.toNat : Int), D.i (e.I.toNat : Int), D.l f.L, D.l (List.set (List.set g.L c.I.toNat (updC (List.getD g.L c.I.toNat []) [D.i (IntKind.i64.wrap (a.I - D.I (List.getD (List.getD g.L c.I.toNat []) 0 default)))] (0 + 0) 0 (List.length [K.int IntKind.i64, K.int IntKind.i64, K.int IntKind.i64]))) c.I.toNat (updC (List.getD (List.set g.L c.I.toNat (updC (List.getD g.L c.I.toNat []) [D.i (IntKind.i64.wrap (a.I - D.I (List.getD (List.getD g.L c.I.toNat []) 0 default)))] (0 + 0) 0 (List.length [K.int IntKind.i64, K.int IntKind.i64, K.int IntKind.i64]))) c.I.toNat []) [D.i (IntKind.i64.wrap (IntKind.i64.wrap (D.I (List.getD (List.getD g.L c.I.toNat []) (0 + 1) default) + (1 : Int)) - D.I (List.getD (List.getD g.L c.I.toNat []) (0 + 1 + 1) default)))] (0 + 2) 0 (List.length [K.int IntKind.i64, K.int IntKind.i64, K.int IntKind.i64])))])))))))) (T.leaf (Rd.out (Ex.exit 4) [D.i 1, D.i (d.I.toNat : Int), D.i (e.I.toNat : Int), D.l f.L, D.l g.L])) := by kernel_rfl
theorem t20_20_2 (a b c d e f g : D) : roundT C tab20 20 (loopOf C.P 20 20) l20_20 [.i 2, a, b, c, d, e, f, g] =
 T.ite (decide (c.I < b.I)) T.fail (T.leaf (Rd.out (Ex.exit 4) [D.i 2, D.i (d.I.toNat : Int), D.i (e.I.toNat : Int), D.l f.L, D.l g.L])) := by kernel_rfl
theorem t20_20_3 (a b c d e f g h i : D) : roundT C tab20 20 (loopOf C.P 20 20) l20_20 [.i 3, a, b, c, d, e, f, g, h, i] =
 T.ite (decide (c.I < b.I)) (T.need (decide ((0 : Int) ≤ c.I ∧ c.I < (f.I.toNat : Int))) (T.need (decide (c.I.toNat < i.L.length)) (T.need (decide (c.I.toNat < i.L.length)) (T.need (decide (c.I.toNat < i.L.length)) (T.need (decide (c.I.toNat < i.L.length)) (T.need (decide (c.I.toNat < List.length (List.set i.L c.I.toNat (updC (List.getD i.L c.I.toNat []) [D.i (IntKind.i64.wrap (a.I - D.I (List.getD (List.getD i.L c.I.toNat []) 0 default)))] (0 + 0) 0 (List.length [K.int IntKind.i64, K.int IntKind.i64, K.int IntKind.i64]))))) (T.leaf (Rd.again [D.i 3, D.i a.I, D.i b.I, D.i (IntKind.i64.wrap (c.I + (1 : Int))), D.i (d.I.toNat : Int), D.i (e.I.toNat : Int), D.i (f.I.toNat : Int), D.l g.L, D.l h.L, D.l (List.set (List.set i.L c.I.toNat (updC (List.getD i.L c.I.toNat []) [D.i (IntKind.i64.wrap (a.I - D.I (List.getD (List.getD i.L c.I.toNat []) 0 default)))] (0 + 0) 0 (List.length [K.int IntKind.i64, K.int IntKind.i64, K.int IntKind.i64]))) c.I.toNat (updC (List.getD (List.set i.L c.I.toNat (updC (List.getD i.L c.I.toNat []) [D.i (IntKind.i64.wrap (a.I - D.I (List.getD (List.getD i.L c.I.toNat []) 0 default)))] (0 + 0) 0 (List.length [K.int IntKind.i64, K.int IntKind.i64, K.int IntKind.i64]))) c.I.toNat []) [D.i (IntKind.i64.wrap (IntKind.i64.wrap (D.I (List.getD (List.getD i.L c.I.toNat []) (0 + 1) default) + (1 : Int)) - D.I (List.getD (List.getD i.L c.I.toNat []) (0 + 1 + 1) default)))] (0 + 2) 0 (List.length [K.int IntKind.i64, K.int IntKind.i64, K.int IntKind.i64])))])))))))) (T.leaf (Rd.out (Ex.exit 4) [D.i 3, D.i (d.I.toNat : Int), D.i (e.I.toNat : Int), D.i (f.I.toNat : Int), D.l g.L, D.l h.L, D.l i.L])) := by kernel_rfl
set_option maxRecDepth 100000
theorem updF_step {g : List D → List D} {l : List (List D)} {k : Nat} (hk : k < l.length) : updF g k (l.length - k) l = updF g (k + 1) (l.length - (k + 1)) (l.set k (g (l.getD k []))) := by
 rw [show l.length - k = (l.length - (k + 1)) + 1 by omega]
 rfl
theorem updF_end {g : List D → List D} {l : List (List D)} {k : Nat} (hk : l.length ≤ k) : updF g k (l.length - k) l = l := by
 rw [show l.length - k = 0 by omega]
 rfl
theorem updF_length {g : List D → List D} : ∀ (k i : Nat) (l : List (List D)), (updF g i k l).length = l.length
 | 0, _, _ => rfl
 | k + 1, i, l => by simp only [updF, updF_length k, List.length_set]
theorem revL_length {can : List D → List D} : ∀ (h i j : Nat) (l : List (List D)), (revL can h i j l).length = l.length
 | 0, _, _, _ => rfl
 | h + 1, i, j, l => by simp only [revL, revL_length h, List.length_set]
theorem revR_length {can : List D → List D} (l : List (List D)) : (revR can l).length = l.length := revL_length _ _ _ _
theorem take1 (x : List D) : List.take 1 [x] = [x] := rfl
set_option maxRecDepth 100000
theorem getD_set {l : List (List D)} {k : Nat} {x : List D} (hk : k < l.length) : (l.set k x).getD k [] = x := by simp [List.getD_eq_getElem?_getD, hk]
theorem many60 (n : Nat) : FnOKW C (n + 1) 60 (mkFWs [(s60, G60), (s1060, G1060)]) := many_ok ⟨ok60 n, ok1060 n, trivial⟩
theorem many61 (n : Nat) : FnOKW C (n + 1) 61 (mkFWs [(s61, G61), (s1061, G1061)]) := many_ok ⟨ok61 n, ok1061 n, trivial⟩
theorem ok20_10 (n : Nat) : LoopSim C (n + 4) 20 (loopOf C.P 20 10) (mkL l20_10 G20_10) := by
 refine loop_ofK hC (sp := sp20) (lp := lp20) (sw := sw20) ⟨ok51 n, ok53 (n + 3), ok56 (n + 3), ok57 (n + 3), ok58 (n + 3), trivial⟩ ⟨ok52 (n + 2), ok59 (n + 3), many60 (n + 3), many61 (n + 3), trivial⟩ 0 [] (by kernel_rfl) rfl (fun k hk => by cases hk) (by kernel_rfl) (fun ds => ((ds.getD 2 default).I - (ds.getD 3 default).I).toNat) fun ds rr h => ?_
 unfold G20_10 at h
 split at h
 ·rename_i z n m i s o
  obtain ⟨hp, h⟩ := need_some h
  rw [yes_iff] at hp
  obtain ⟨hz, h6, h1, h2, h3, h4⟩ := hp
  refine ⟨by rw [fuelC]; simp; omega, ?_⟩
  rw [roundTK_head (j := z) (n := 0) hz (by decide), show roundTK C (mkTab sp20 lp20 sw20) 20 (loopOf C.P 20 10) 0 l20_10 [.i 0, n, m, i, s, o] = _ from t20_10_0 n m i s o]
  obtain ⟨k, hk⟩ : ∃ k : Nat, i.I = k := ⟨i.I.toNat, by omega⟩
  simp only [h6, h1, hk, Int.toNat_natCast, ix_def, Nat.reduceAdd, lenD] at h h2 h3 ⊢
  refine rd_if (fun hlt => ?_) fun hge => ?_
  ·have hlt : k < o.L.length := by omega
   rw [updF_step hlt] at h
   rw [wrap_succ (by omega)]
   have hmu : ((o.L.length : Int) - ((k + 1 : Nat) : Int)).toNat < (m.I - i.I).toNat := by omega
   repeat refine rd_dec (by omega) ?_
   refine rd_again ((need_yes ⟨rfl, by simp only [I_i, L_l, List.length_set], by simp only [I_i, L_l, List.length_set], by simp only [I_i]; omega, by simp only [I_i, L_l, List.length_set]; omega, by simp only [L_l, List.length_set]; omega⟩).trans ?_) hmu
   simp only [L_l, I_i, Int.toNat_natCast, List.length_set, lenD]
   exact h
  ·rw [updF_end (by omega)] at h
   exact rd_out h
 ·rename_i z n m i s t o u
  obtain ⟨hp, h⟩ := need_some h
  rw [yes_iff] at hp
  obtain ⟨hz, h6, h7, h1, h2, h3, h4⟩ := hp
  rcases hz with hz | hz
  ·refine ⟨by rw [fuelC]; simp; omega, ?_⟩
   rw [roundTK_head (j := z) (n := 1) hz (by decide), show roundTK C (mkTab sp20 lp20 sw20) 20 (loopOf C.P 20 10) 0 l20_10 [.i 1, n, m, i, s, t, o, u] = _ from t20_10_1 n m i s t o u]
   obtain ⟨k, hk⟩ : ∃ k : Nat, i.I = k := ⟨i.I.toNat, by omega⟩
   simp only [hz, h6, h7, h1, hk, Int.toNat_natCast, ix_def, Nat.reduceAdd, lenD] at h h2 h3 ⊢
   refine rd_if (fun hlt => ?_) fun hge => ?_
   ·have hlt : k < o.L.length := by omega
    rw [updF_step hlt] at h
    rw [wrap_succ (by omega)]
    have hmu : ((o.L.length : Int) - ((k + 1 : Nat) : Int)).toNat < (m.I - i.I).toNat := by omega
    repeat refine rd_dec (by omega) ?_
    refine rd_again ((need_yes ⟨.inl rfl, by simp only [I_i, L_l, List.length_set], rfl, by simp only [I_i, L_l, List.length_set], by simp only [I_i]; omega, by simp only [I_i, L_l, List.length_set]; omega, by simp only [L_l, List.length_set]; omega⟩).trans ?_) hmu
    simp only [L_l, I_i, Int.toNat_natCast, List.length_set, lenD]
    exact h
   ·rw [updF_end (by omega)] at h
    exact rd_out h
  ·refine ⟨by rw [fuelC]; simp; omega, ?_⟩
   rw [roundTK_head (j := z) (n := 2) hz (by decide), show roundTK C (mkTab sp20 lp20 sw20) 20 (loopOf C.P 20 10) 0 l20_10 [.i 2, n, m, i, s, t, o, u] = _ from t20_10_2 n m i s t o u]
   obtain ⟨k, hk⟩ : ∃ k : Nat, i.I = k := ⟨i.I.toNat, by omega⟩
   simp only [hz, h6, h7, h1, hk, Int.toNat_natCast, ix_def, Nat.reduceAdd, lenD] at h h2 h3 ⊢
   refine rd_if (fun hlt => ?_) fun hge => ?_
   ·have hlt : k < o.L.length := by omega
    rw [updF_step hlt] at h
    rw [wrap_succ (by omega)]
    have hmu : ((o.L.length : Int) - ((k + 1 : Nat) : Int)).toNat < (m.I - i.I).toNat := by omega
    repeat refine rd_dec (by omega) ?_
    refine rd_again ((need_yes ⟨.inr rfl, by simp only [I_i, L_l, List.length_set], rfl, by simp only [I_i, L_l, List.length_set], by simp only [I_i]; omega, by simp only [I_i, L_l, List.length_set]; omega, by simp only [L_l, List.length_set]; omega⟩).trans ?_) hmu
    simp only [L_l, I_i, Int.toNat_natCast, List.length_set, lenD]
    exact h
   ·rw [updF_end (by omega)] at h
    exact rd_out h
 ·rename_i z n m i s t v o u w
  obtain ⟨hp, h⟩ := need_some h
  rw [yes_iff] at hp
  obtain ⟨hz, h6, h7, h8, h1, h2, h3, h4⟩ := hp
  refine ⟨by rw [fuelC]; simp; omega, ?_⟩
  rw [roundTK_head (j := z) (n := 3) hz (by decide), show roundTK C (mkTab sp20 lp20 sw20) 20 (loopOf C.P 20 10) 0 l20_10 [.i 3, n, m, i, s, t, v, o, u, w] = _ from t20_10_3 n m i s t v o u w]
  obtain ⟨k, hk⟩ : ∃ k : Nat, i.I = k := ⟨i.I.toNat, by omega⟩
  simp only [h6, h7, h8, h1, hk, Int.toNat_natCast, ix_def, Nat.reduceAdd, lenD] at h h2 h3 ⊢
  refine rd_if (fun hlt => ?_) fun hge => ?_
  ·have hlt : k < o.L.length := by omega
   rw [updF_step hlt] at h
   rw [wrap_succ (by omega)]
   have hmu : ((o.L.length : Int) - ((k + 1 : Nat) : Int)).toNat < (m.I - i.I).toNat := by omega
   repeat refine rd_dec (by omega) ?_
   refine rd_again ((need_yes ⟨rfl, by simp only [I_i, L_l, List.length_set], rfl, rfl, by simp only [I_i, L_l, List.length_set], by simp only [I_i]; omega, by simp only [I_i, L_l, List.length_set]; omega, by simp only [L_l, List.length_set]; omega⟩).trans ?_) hmu
   simp only [L_l, I_i, Int.toNat_natCast, List.length_set, lenD]
   exact h
  ·rw [updF_end (by omega)] at h
   exact rd_out h
 ·cases h
theorem ok20_15 (n : Nat) : LoopSim C (n + 4) 20 (loopOf C.P 20 15) (mkL l20_15 G20_15) := by
 refine loop_ofK hC (sp := sp20) (lp := lp20) (sw := sw20) ⟨ok51 n, ok53 (n + 3), ok56 (n + 3), ok57 (n + 3), ok58 (n + 3), trivial⟩ ⟨ok52 (n + 2), ok59 (n + 3), many60 (n + 3), many61 (n + 3), trivial⟩ 0 [] (by kernel_rfl) rfl (fun k hk => by cases hk) (by kernel_rfl) (fun ds => ((ds.getD 2 default).I - (ds.getD 3 default).I).toNat) fun ds rr h => ?_
 unfold G20_15 at h
 split at h
 ·rename_i z n m i s o
  obtain ⟨hp, h⟩ := need_some h
  rw [yes_iff] at hp
  obtain ⟨hz, h6, h1, h2⟩ := hp
  refine ⟨by rw [fuelC]; simp; omega, ?_⟩
  rw [roundTK_head (j := z) (n := 0) hz (by decide), show roundTK C (mkTab sp20 lp20 sw20) 20 (loopOf C.P 20 15) 0 l20_15 [.i 0, n, m, i, s, o] = _ from t20_15_0 n m i s o]
  refine rd_neg (by omega) ?_
  simp only [h6, Int.toNat_natCast]
  exact rd_out h
 ·rename_i z n m i s t o u
  obtain ⟨hp, h⟩ := need_some h
  rw [yes_iff] at hp
  obtain ⟨hz, h6, h7⟩ := hp
  rcases hz with ⟨hz, h1, h2⟩ | ⟨hz, h1, h2, h3, h4⟩
  ·refine ⟨by rw [fuelC]; simp; omega, ?_⟩
   rw [roundTK_head (j := z) (n := 1) hz (by decide), show roundTK C (mkTab sp20 lp20 sw20) 20 (loopOf C.P 20 15) 0 l20_15 [.i 1, n, m, i, s, t, o, u] = _ from t20_15_1 n m i s t o u]
   rw [hz, run_ite, if_pos (by simp)] at h
   refine rd_neg (by omega) ?_
   simp only [h6, h7, Int.toNat_natCast]
   exact rd_out h
  ·refine ⟨by rw [fuelC]; simp; omega, ?_⟩
   rw [roundTK_head (j := z) (n := 2) hz (by decide), show roundTK C (mkTab sp20 lp20 sw20) 20 (loopOf C.P 20 15) 0 l20_15 [.i 2, n, m, i, s, t, o, u] = _ from t20_15_2 n m i s t o u]
   obtain ⟨k, hk⟩ : ∃ k : Nat, i.I = k := ⟨i.I.toNat, by omega⟩
   rw [hz, run_ite, if_neg (by simp)] at h
   simp only [h6, h7, h1, hk, Int.toNat_natCast, ix_def, Nat.reduceAdd, lenD] at h h2 h3 ⊢
   refine rd_if (fun hlt => ?_) fun hge => ?_
   ·have hlt : k < u.L.length := by omega
    rw [updF_step hlt] at h
    rw [wrap_succ (by omega)]
    have hmu : ((u.L.length : Int) - ((k + 1 : Nat) : Int)).toNat < (m.I - i.I).toNat := by omega
    repeat refine rd_dec (by omega) ?_
    refine rd_again ((need_yes ⟨.inr ⟨rfl, by simp only [I_i, L_l, List.length_set], by simp only [I_i]; omega, by simp only [I_i, L_l, List.length_set]; omega, by simp only [L_l, List.length_set]; omega⟩, rfl, by simp only [I_i, L_l, List.length_set]⟩).trans ?_) hmu
    rw [run_ite, if_neg (by simp [D.I])]
    simp only [L_l, I_i, Int.toNat_natCast, List.length_set, lenD]
    exact h
   ·rw [updF_end (by omega)] at h
    exact rd_out h
 ·rename_i z n m i s t v o u w
  obtain ⟨hp, h⟩ := need_some h
  rw [yes_iff] at hp
  obtain ⟨hz, h6, h7, h8, h1, h2, h3, h4⟩ := hp
  refine ⟨by rw [fuelC]; simp; omega, ?_⟩
  rw [roundTK_head (j := z) (n := 3) hz (by decide), show roundTK C (mkTab sp20 lp20 sw20) 20 (loopOf C.P 20 15) 0 l20_15 [.i 3, n, m, i, s, t, v, o, u, w] = _ from t20_15_3 n m i s t v o u w]
  obtain ⟨k, hk⟩ : ∃ k : Nat, i.I = k := ⟨i.I.toNat, by omega⟩
  simp only [h6, h7, h8, h1, hk, Int.toNat_natCast, ix_def, Nat.reduceAdd, lenD] at h h2 h3 ⊢
  refine rd_if (fun hlt => ?_) fun hge => ?_
  ·have hlt : k < u.L.length := by omega
   rw [updF_step hlt] at h
   rw [wrap_succ (by omega)]
   have hmu : ((u.L.length : Int) - ((k + 1 : Nat) : Int)).toNat < (m.I - i.I).toNat := by omega
   repeat refine rd_dec (by omega) ?_
   refine rd_again ((need_yes ⟨rfl, rfl, by simp only [I_i, L_l, List.length_set], rfl, by simp only [I_i, L_l, List.length_set], by simp only [I_i]; omega, by simp only [I_i, L_l, List.length_set]; omega, by simp only [L_l, List.length_set]; omega⟩).trans ?_) hmu
   simp only [L_l, I_i, Int.toNat_natCast, List.length_set, lenD]
   exact h
  ·rw [updF_end (by omega)] at h
   exact rd_out h
 ·cases h
theorem ok20_20 (n : Nat) : LoopSim C (n + 4) 20 (loopOf C.P 20 20) (mkL l20_20 G20_20) := by
 refine loop_ofK hC (sp := sp20) (lp := lp20) (sw := sw20) ⟨ok51 n, ok53 (n + 3), ok56 (n + 3), ok57 (n + 3), ok58 (n + 3), trivial⟩ ⟨ok52 (n + 2), ok59 (n + 3), many60 (n + 3), many61 (n + 3), trivial⟩ 0 [] (by kernel_rfl) rfl (fun k hk => by cases hk) (by kernel_rfl) (fun ds => ((ds.getD 2 default).I - (ds.getD 3 default).I).toNat) fun ds rr h => ?_
 unfold G20_20 at h
 split at h
 ·rename_i z n m i s o
  obtain ⟨hp, h⟩ := need_some h
  rw [yes_iff] at hp
  obtain ⟨hz, h6, h1, h2⟩ := hp
  refine ⟨by rw [fuelC]; simp; omega, ?_⟩
  rw [roundTK_head (j := z) (n := 0) hz (by decide), show roundTK C (mkTab sp20 lp20 sw20) 20 (loopOf C.P 20 20) 0 l20_20 [.i 0, n, m, i, s, o] = _ from t20_20_0 n m i s o]
  refine rd_neg (by omega) ?_
  simp only [h6, Int.toNat_natCast]
  exact rd_out h
 ·rename_i z n m i s t o u
  obtain ⟨hp, h⟩ := need_some h
  rw [yes_iff] at hp
  obtain ⟨hz, h6, h7⟩ := hp
  rcases hz with ⟨hz, h1, h2⟩ | ⟨hz, h1, h2, h3, h4⟩
  ·refine ⟨by rw [fuelC]; simp; omega, ?_⟩
   rw [roundTK_head (j := z) (n := 2) hz (by decide), show roundTK C (mkTab sp20 lp20 sw20) 20 (loopOf C.P 20 20) 0 l20_20 [.i 2, n, m, i, s, t, o, u] = _ from t20_20_2 n m i s t o u]
   rw [hz, run_ite, if_pos (by simp)] at h
   refine rd_neg (by omega) ?_
   simp only [h6, h7, Int.toNat_natCast]
   exact rd_out h
  ·refine ⟨by rw [fuelC]; simp; omega, ?_⟩
   rw [roundTK_head (j := z) (n := 1) hz (by decide), show roundTK C (mkTab sp20 lp20 sw20) 20 (loopOf C.P 20 20) 0 l20_20 [.i 1, n, m, i, s, t, o, u] = _ from t20_20_1 n m i s t o u]
   obtain ⟨k, hk⟩ : ∃ k : Nat, i.I = k := ⟨i.I.toNat, by omega⟩
   rw [hz, run_ite, if_neg (by simp)] at h
   simp only [h6, h7, h1, hk, Int.toNat_natCast, ix_def, Nat.reduceAdd, List.length_set, lenD] at h h2 h3 ⊢
   refine rd_if (fun hlt => ?_) fun hge => ?_
   ·have hlt : k < u.L.length := by omega
    rw [updF_step hlt] at h
    rw [wrap_succ (by omega), getD_set hlt, List.set_set]
    have hmu : ((u.L.length : Int) - ((k + 1 : Nat) : Int)).toNat < (m.I - i.I).toNat := by omega
    repeat refine rd_dec (by omega) ?_
    refine rd_again ((need_yes ⟨.inr ⟨rfl, by simp only [I_i, L_l, List.length_set], by simp only [I_i]; omega, by simp only [I_i, L_l, List.length_set]; omega, by simp only [L_l, List.length_set]; omega⟩, rfl, by simp only [I_i, L_l, List.length_set]⟩).trans ?_) hmu
    rw [run_ite, if_neg (by simp [D.I])]
    simp only [L_l, I_i, Int.toNat_natCast, List.length_set, lenD]
    exact h
   ·rw [updF_end (by omega)] at h
    exact rd_out h
 ·rename_i z n m i s t v o u w
  obtain ⟨hp, h⟩ := need_some h
  rw [yes_iff] at hp
  obtain ⟨hz, h6, h7, h8, h1, h2, h3, h4⟩ := hp
  refine ⟨by rw [fuelC]; simp; omega, ?_⟩
  rw [roundTK_head (j := z) (n := 3) hz (by decide), show roundTK C (mkTab sp20 lp20 sw20) 20 (loopOf C.P 20 20) 0 l20_20 [.i 3, n, m, i, s, t, v, o, u, w] = _ from t20_20_3 n m i s t v o u w]
  obtain ⟨k, hk⟩ : ∃ k : Nat, i.I = k := ⟨i.I.toNat, by omega⟩
  simp only [h6, h7, h8, h1, hk, Int.toNat_natCast, ix_def, Nat.reduceAdd, List.length_set, lenD] at h h2 h3 ⊢
  refine rd_if (fun hlt => ?_) fun hge => ?_
  ·have hlt : k < w.L.length := by omega
   rw [updF_step hlt] at h
   rw [wrap_succ (by omega), getD_set hlt, List.set_set]
   have hmu : ((w.L.length : Int) - ((k + 1 : Nat) : Int)).toNat < (m.I - i.I).toNat := by omega
   repeat refine rd_dec (by omega) ?_
   refine rd_again ((need_yes ⟨rfl, rfl, rfl, by simp only [I_i, L_l, List.length_set], by simp only [I_i, L_l, List.length_set], by simp only [I_i]; omega, by simp only [I_i, L_l, List.length_set]; omega, by simp only [L_l, List.length_set]; omega⟩).trans ?_) hmu
   simp only [L_l, I_i, Int.toNat_natCast, List.length_set, lenD]
   exact h
  ·rw [updF_end (by omega)] at h
   exact rd_out h
 ·cases h
set_option maxRecDepth 100000
theorem road_of {p c j : List (List D)} (h : roadP p c j) : manyP p ∧ c.length ≤ 1000 ∧ j.length ≤ 200 ∧ lenR p ≤ 100000 ∧ p ≠ [] := by
 unfold roadP roadOk sizesOk at h
 simp only [Bool.and_eq_true, decide_eq_true_eq, Lite.within_iff] at h
 obtain ⟨⟨⟨⟨⟨⟨h1, h2⟩, h3⟩, h4⟩, h5⟩, -⟩, -⟩ := h
 refine ⟨⟨by omega, by omega, h4⟩, h2, h3, h5, ?_⟩
 intro e
 rw [e] at h1
 simp at h1
set_option maxRecDepth 100000
theorem crestR_ne {n : Int} {l : List (List D)} (h : l.isEmpty = false) : crestR n l = updF (crestU n) 0 l.length (revR can2 l) := by unfold crestR; rw [h]; rfl
theorem juncR_ne {n : Int} {l : List (List D)} (h : l.isEmpty = false) : juncR n l = updF (juncU n) 0 l.length (revR can3 l) := by unfold juncR; rw [h]; rfl
theorem crestR_e {n : Int} {l : List (List D)} (h : l.isEmpty = true) : crestR n l = [] := by unfold crestR; rw [h]; rfl
theorem juncR_e {n : Int} {l : List (List D)} (h : l.isEmpty = true) : juncR n l = [] := by unfold juncR; rw [h]; rfl
theorem len_ne {l : List (List D)} (h : l.isEmpty = false) : 1 ≤ l.length := by cases l with
 | nil => cases h
 | cons a l => simp
theorem ok20 (n : Nat) : FnOK C (n + 5) 20 (mkF s20 G20) := by
 refine fn_ofS hC (sp := sp20) (lp := lp20) (sw := sw20) ⟨ok51 n, ok53 (n + 3), ok56 (n + 3), ok57 (n + 3), ok58 (n + 3), trivial⟩ ⟨ok52 (n + 2), ok59 (n + 3), many60 (n + 3), many61 (n + 3), trivial⟩ (by kernel_rfl) [10, 15, 20] (by kernel_rfl) (by kernel_rfl)
  (fun k hk L hL => by simp at hk; rcases hk with hk | hk | hk <;> subst hk <;> cases hL; exact ok20_10 n; exact ok20_15 n; exact ok20_20 n) fun ds r h => ?_
 unfold G20 at h
 split at h
 ·rename_i p c j
  obtain ⟨hr, h⟩ := need_some h
  rw [yes_iff] at hr
  obtain ⟨hm, hcl, hjl, hle, hne⟩ := road_of hr
  have hr' : roadOk p.L c.L j.L = true := hr
  have htk : (begR p.L).take (p.L.length + 1) = begR p.L := List.take_of_length_le (by rw [begR_length]; omega)
  have hln : ix ((begR p.L).getD p.L.length []) 0 = lenR p.L := begR_get (Nat.le_refl _)
  have hbl := begR_length p.L
  obtain ⟨m1, m2, -⟩ := id hm
  refine (congrArg T.run (t20 p c j)).trans ?_
  generalize fnT C tab20 20 s20 [p, c, j] = XX
  have t1 : ∀ (g : List D → List D) (k i : Nat) (l : List (List D)), (updF g i k l).take l.length = updF g i k l := fun g k i l => List.take_of_length_le (by rw [updF_length]; omega)
  have t2 : ∀ (f : List D → List D) (g : List D → List D) (k i : Nat) (l : List (List D)), (updF g i k (revR f l)).take l.length = updF g i k (revR f l) := fun f g k i l => List.take_of_length_le (by rw [updF_length, revR_length]; omega)
  simp only [Int.toNat_natCast, htk, hln, Int.toNat_zero, Nat.sub_zero, updF_length, revR_length, t2]
  have htr : turnR p.L = updF turnU 0 p.L.length (revR can5 p.L) := rfl
  rw [htr] at h
  refine go_true hr' (go_false rfl (go_yes hm (go_dec (by omega) (go_yes ⟨hm, by trivial⟩ (go_yes ⟨hne, by omega⟩ (go_yes (by omega) ?_))))))
  cases hb : c.L.isEmpty <;> cases hc : j.L.isEmpty
  ·have l1 := len_ne hb
   have l2 := len_ne hc
   rw [crestR_ne hb, juncR_ne hc] at h
   refine go_false rfl (go_yes (by omega) (go_false rfl ?_))
   repeat (first | refine go_dec (by omega) ?_ | refine go_yes (by simp [stG, revR_length]; try omega) ?_ | refine go_true rfl ?_ | refine go_false rfl ?_)
   exact h
  ·have l1 := len_ne hb
   rw [crestR_ne hb, juncR_e hc] at h
   refine go_false rfl (go_yes (by omega) (go_true rfl ?_))
   repeat (first | refine go_dec (by omega) ?_ | refine go_yes (by simp [stG, revR_length, updF_length]; try omega) ?_ | refine go_true rfl ?_ | refine go_false rfl ?_)
   exact h
  ·have l2 := len_ne hc
   rw [crestR_e hb, juncR_ne hc] at h
   refine go_true rfl (go_yes (by omega) (go_false rfl ?_))
   repeat (first | refine go_dec (by omega) ?_ | refine go_yes (by simp [stG, revR_length]; try omega) ?_ | refine go_true rfl ?_ | refine go_false rfl ?_)
   exact h
  ·rw [crestR_e hb, juncR_e hc] at h
   refine go_true rfl (go_yes (by omega) (go_true rfl ?_))
   repeat (first | refine go_dec (by omega) ?_ | refine go_yes (by simp [stG, revR_length]; try omega) ?_ | refine go_true rfl ?_ | refine go_false rfl ?_)
   exact h
 ·cases h
theorem revL_get : ∀ (h i j : Nat) (M : List (List D)), i + j + 1 = M.length → h = (j + 1 - i) / 2 → i ≤ j + 1 → ∀ k, k < M.length → (revL id h i j M).getD k [] = if i ≤ k ∧ k ≤ j then M.getD (M.length - 1 - k) [] else M.getD k []
 | 0, i, j, M, h1, h2, h3, k, hk => by
   simp only [revL]
   split
   ·rw [show M.length - 1 - k = k by omega]
   ·rfl
 | h + 1, i, j, M, h1, h2, h3, k, hk => by
   have hij : i < j := by omega
   simp only [revL, id]
   have hl : ((M.set i (M.getD j [])).set j (M.getD i [])).length = M.length := by simp
   have ih := revL_get h (i + 1) (j - 1) ((M.set i (M.getD j [])).set j (M.getD i [])) (by rw [hl]; omega) (by omega) (by omega) k (by rw [hl]; exact hk)
   rw [ih, hl]
   have key : ∀ q, q < M.length → ((M.set i (M.getD j [])).set j (M.getD i [])).getD q [] = if q = j then M.getD i [] else if q = i then M.getD j [] else M.getD q [] := fun q hq => by
    simp only [List.getD_eq_getElem?_getD, List.getElem?_set, List.length_set]
    by_cases a : j = q
    ·subst a
     simp [hq]
    ·rw [if_neg a, if_neg (show ¬ q = j from fun h => a h.symm)]
     by_cases b : i = q
     ·subst b
      simp [hq]
     ·rw [if_neg b, if_neg (show ¬ q = i from fun h => b h.symm)]
   by_cases c : i + 1 ≤ k ∧ k ≤ j - 1
   ·rw [if_pos c, if_pos (by omega), key _ (by omega), if_neg (by omega), if_neg (by omega)]
   ·rw [if_neg c, key _ hk]
    by_cases a : k = j
    ·subst a
     rw [if_pos rfl, if_pos (by omega), show M.length - 1 - k = i by omega]
    ·rw [if_neg a]
     by_cases b : k = i
     ·subst b
      rw [if_pos rfl, if_pos (by omega), show M.length - 1 - k = j by omega]
     ·rw [if_neg b, if_neg (by omega)]
theorem getD_map {f : List D → List D} {l : List (List D)} {k : Nat} (hk : k < l.length) : (l.map f).getD k [] = f (l.getD k []) := by
 simp [List.getD_eq_getElem?_getD, hk]
theorem revL_map {can f : List D → List D} (hf : ∀ x, f (can x) = f x) : ∀ (h i j : Nat) (l : List (List D)), i + j + 1 = l.length → h = (j + 1 - i) / 2 → i ≤ j + 1 → (revL can h i j l).map f = revL id h i j (l.map f)
 | 0, i, j, l, _, _, _ => rfl
 | h + 1, i, j, l, h1, h2, h3 => by
   have hij : i < j := by omega
   simp only [revL, id]
   rw [revL_map hf h (i + 1) (j - 1) _ (by simp; omega) (by omega) (by omega), List.map_set, List.map_set, hf, hf, getD_map (by omega), getD_map (by omega)]
theorem revR_map {can f : List D → List D} (hf : ∀ x, f (can x) = f x) {l : List (List D)} (hl : 1 ≤ l.length) : (revR can l).map f = (l.map f).reverse := by
 unfold revR
 rw [revL_map hf _ _ _ _ (by omega) (by omega) (by omega)]
 have hm : (l.map f).length = l.length := by simp
 have hr : (revL id (l.length / 2) 0 (l.length - 1) (l.map f)).length = l.length := by rw [revL_length, hm]
 apply List.ext_getElem
 ·rw [hr, List.length_reverse, hm]
 ·intro k k1 k2
  have hk : k < l.length := by omega
  have := revL_get (l.length / 2) 0 (l.length - 1) (l.map f) (by omega) (by omega) (by omega) k (by omega)
  rw [if_pos (by omega), hm] at this
  rw [List.getElem_reverse]
  simp only [List.getD_eq_getElem?_getD] at this
  rw [List.getElem?_eq_getElem k1, List.getElem?_eq_getElem (by omega)] at this
  simp only [Option.getD_some] at this
  rw [this]
  congr 1
  omega
theorem turnR_length (p : List (List D)) : (turnR p).length = p.length := by
 unfold turnR
 rw [updF_length, revR_length]
def s92 : Sig := ⟨[.k (.int .i64), .k (.int .i64), .k (.int .i64)], [(.k .bool, [])]⟩
def s122 : Sig := ⟨[.k (.int .i64), .k (.int .i64)], [(.k .bool, [])]⟩
def s123 : Sig := ⟨[.k (.int .i64)], [(.k .bool, [])]⟩
def s1130 : Sig := ⟨[.k (.ro [.int .i64]), .fn 123 [] []], [(.k (.int .i64), [])]⟩
def l1130_2 : LSig := mkLS [0, 1, 7, 8] [(19, [(0, .k (.ro [.int .i64])), (1, .fn 123 [] []), (7, .k (.int .i64)), (8, .k (.int .i64))], [])] [(.ret, [4], [(19, [(4, .k (.int .i64))], [])]), (.exit 0, [], [(19, [], [])])]
def s1102 : Sig := ⟨[.k (.ro [.int .i64]), .fn 123 [] []], [(.k .bool, [])]⟩
def s90 : Sig := ⟨[.agg [.k (.int .i64), .k (.int .i64), .k (.ro [.int .i64, .int .i64, .int .i64]), .k (.ro [.int .i64])]], [(.k (.int .i64), [])]⟩
def l90_4 : LSig := mkLS [1, 33, 34, 35] [(71, [(1, .ptr 0 4 0 0), (33, .k (.ro [.int .i64, .int .i64, .int .i64])), (34, .k (.int .i64)), (35, .k (.int .i64))], [.box [.k (.int .i64), .k (.int .i64), .k (.ro [.int .i64, .int .i64, .int .i64]), .k (.ro [.int .i64])]])] [(.ret, [2], [(71, [(2, .k (.int .i64))], [])]), (.exit 0, [1], [(71, [(1, .ptr 0 4 0 0)], [.box [.k (.int .i64), .k (.int .i64), .k (.ro [.int .i64, .int .i64, .int .i64]), .k (.ro [.int .i64])]])])]
def s9 : Sig := ⟨[.agg [.k (.int .i64), .k (.int .i64), .k (.ro [.int .i64, .int .i64, .int .i64]), .k (.ro [.int .i64])]], [(.k .bool, [])]⟩
def l9_4 : LSig := mkLS [1, 3] [(101, [(1, .ptr 0 4 0 0), (3, .k (.int .i64))], [.box [.k (.int .i64), .k (.int .i64), .k (.ro [.int .i64, .int .i64, .int .i64]), .k (.ro [.int .i64])]])] [(.ret, [2], [(101, [(2, .k .bool)], [])]), (.exit 0, [1], [(101, [(1, .ptr 0 4 0 0)], [.box [.k (.int .i64), .k (.int .i64), .k (.ro [.int .i64, .int .i64, .int .i64]), .k (.ro [.int .i64])]])])]
def l9_10 : LSig := mkLS [1, 5] [(101, [(1, .ptr 0 4 0 0), (5, .k (.int .i64))], [.box [.k (.int .i64), .k (.int .i64), .k (.ro [.int .i64, .int .i64, .int .i64]), .k (.ro [.int .i64])]])] [(.ret, [2], [(101, [(2, .k .bool)], [])]), (.exit 2, [], [(101, [], [])])]
def s11 : Sig := ⟨[.agg [.k (.ro [.int .i64, .int .i64, .int .i64, .int .i64, .int .i64]), .k (.ro [.int .i64, .int .i64]), .k (.ro [.int .i64, .int .i64, .int .i64])]], [(.k (.int .i64), [])]⟩
def l11_3 : LSig := mkLS [1, 3, 4] [(21, [(1, .ptr 0 3 0 0), (3, .k (.int .i64)), (4, .k (.int .i64))], [.box [.k (.ro [.int .i64, .int .i64, .int .i64, .int .i64, .int .i64]), .k (.ro [.int .i64, .int .i64]), .k (.ro [.int .i64, .int .i64, .int .i64])]])] [(.exit 0, [3], [(21, [(3, .k (.int .i64))], [])])]
def s40 : Sig := ⟨[.k (.int .i64), .k (.int .i64), .k (.int .i64)], [(.k .bool, [])]⟩
def s8 : Sig := ⟨[.agg [.k (.ro [.int .i64, .int .i64, .int .i64, .int .i64, .int .i64]), .k (.ro [.int .i64, .int .i64]), .k (.ro [.int .i64, .int .i64, .int .i64])]], [(.k .bool, [])]⟩
def s142 : Sig := ⟨[.agg [.k (.int .i64), .k (.int .i64), .k (.ro [.int .i64, .int .i64, .int .i64]), .k (.ro [.int .i64])], .agg [.k (.int .i64), .k (.int .i64), .k (.int .i64), .k (.int .i64), .k (.int .i64)]], [(.tup [.k (.int .i64), .k (.int .i64)], [])]⟩
def l142_4 : LSig := mkLS [2, 3, 6] [(47, [(2, .ptr 0 4 0 0), (3, .ptr 1 5 0 0), (6, .k (.int .i64))], [.box [.k (.int .i64), .k (.int .i64), .k (.ro [.int .i64, .int .i64, .int .i64]), .k (.ro [.int .i64])], .box [.k (.int .i64), .k (.int .i64), .k (.int .i64), .k (.int .i64), .k (.int .i64)]])] [(.exit 0, [2, 6], [(47, [(2, .ptr 0 4 0 0), (6, .k (.int .i64))], [.box [.k (.int .i64), .k (.int .i64), .k (.ro [.int .i64, .int .i64, .int .i64]), .k (.ro [.int .i64])]])])]
def s125 : Sig := ⟨[.agg [.k (.int .i64), .k (.int .i64), .k (.ro [.int .i64, .int .i64, .int .i64]), .k (.ro [.int .i64])], .agg [.k (.int .i64), .k (.int .i64), .k (.int .i64), .k (.int .i64), .k (.int .i64)]], [(.k (.int .i64), [])]⟩
def s126 : Sig := ⟨[.agg [.k (.int .i64), .k (.int .i64), .k (.ro [.int .i64, .int .i64, .int .i64]), .k (.ro [.int .i64])], .agg [.k (.int .i64), .k (.int .i64), .k (.int .i64), .k (.int .i64), .k (.int .i64)]], [(.k (.int .i64), [])]⟩
def s93 : Sig := ⟨[.eptr [.any, .any, .any, .k (.ro [.int .i64, .int .i64])]], [(.k (.int .i64), [])]⟩
def s44 : Sig := ⟨[.eptr [.any, .any, .any, .k (.ro [.int .i64, .int .i64])], .k (.int .i64)], [(.k .bool, [])]⟩
def s45 : Sig := ⟨[.eptr [.any, .any, .any, .k (.ro [.int .i64, .int .i64])], .k (.int .i64), .k (.int .i64), .k (.int .i64)], [(.k (.int .i64), [])]⟩
noncomputable section
def bnd (a b : Int) : Bool := decide (1 ≤ a) && (decide (a ≤ b) && decide (b ≤ 700))
def rowSp (l : List (List D)) (k : Nat) : Bool := bnd (ix (l.getD k []) 1) (ix (l.getD k []) 2) && (decide (ix (l.getD k []) 0 ≤ 2000) && riseAt l k)
def pctAt (l : List (List D)) (k : Nat) : Bool := within (ix (l.getD k []) 0) 1 100
def headSp (lo hi : Int) (r u : List (List D)) : Bool := bnd lo hi && (within r.length 1 30 && (decide (u.length = 9) && decide (ix (r.getD 0 []) 0 = 5)))
def speedsOk (lo hi : Int) (r u : List (List D)) : Bool := headSp lo hi r u && (allFrom (rowSp r) 0 r.length && allFrom (pctAt u) 0 9)
def spP (lo hi : Int) (r u : List (List D)) : Prop := speedsOk lo hi r u = true
def rowI (r : List (List D)) (c : Int) : Nat → Nat
 | 0 => 0
 | k + 1 => if ix (r.getD (k + 1) []) 0 > c then rowI r c k else k + 1
def rowLo (lo : Int) (r : List (List D)) (b c : Int) : Int := if b = 0 then lo else ix (r.getD (rowI r c (r.length - 1)) []) 1
def rowHi (hi : Int) (r : List (List D)) (b c : Int) : Int := if b = 0 then hi else ix (r.getD (rowI r c (r.length - 1)) []) 2
def pctOf (u : List (List D)) (e : Int) : Int := ix (u.getD (e - 1).toNat []) 0
def quickV (hi : Int) (r u : List (List D)) (b c e : Int) : Int := (10000000 : Int).tdiv ((rowHi hi r b c * pctOf u e + 99).tdiv 100)
def slowL (lo : Int) (r u : List (List D)) (b c e : Int) : Int := maxI 1 ((rowLo lo r b c * pctOf u e).tdiv 100)
def slowV (lo : Int) (r u : List (List D)) (b c e : Int) : Int := (10000000 + slowL lo r u b c e - 1).tdiv (slowL lo r u b c e)
def pcP (a b c d e : Int) : Prop := pieceP a b c d e = true
def G92 (ds : List D) : T (List D) := match ds with
 | [a, b, c] => .leaf [.b (within a.I b.I c.I)]
 | _ => .fail
def G40 : List D → T (List D) := G92
def G122 (ds : List D) : T (List D) := match ds with
 | [a, b] => .leaf [.b (bnd a.I b.I)]
 | _ => .fail
def G123 (ds : List D) : T (List D) := match ds with
 | [a] => .leaf [.b (!within a.I 1 100)]
 | _ => .fail
def G1130 (ds : List D) : T (List D) := match ds with
 | [l] => .need (yes (l.L.length < big)) (.leaf [.i (firstFrom (fun j => !pctAt l.L j) 0 l.L.length)])
 | _ => .fail
def G1130_2 (ds : List D) : T (Ex × List D) := match ds with
 | [l, n, i] => .need (yes (l.L.length < big ∧ n.I = l.L.length ∧ 0 ≤ i.I ∧ i.I ≤ n.I))
     (.ite (decide (firstFrom (fun j => !pctAt l.L j) i.I.toNat (l.L.length - i.I.toNat) ≥ 0)) (.leaf (.ret, [.i (firstFrom (fun j => !pctAt l.L j) i.I.toNat (l.L.length - i.I.toNat))])) (.leaf (.exit 0, [])))
 | _ => .fail
def G1102 (ds : List D) : T (List D) := match ds with
 | [l] => .need (yes (l.L.length < big)) (.leaf [.b (!allFrom (pctAt l.L) 0 l.L.length)])
 | _ => .fail
def G90 (ds : List D) : T (List D) := match ds with
 | [lo, hi, r, u] => .ite (speedsOk lo.I hi.I r.L u.L) (.leaf [.i 0]) (.leaf [.i 2])
 | _ => .fail
def G90_4 (ds : List D) : T (Ex × List D) := match ds with
 | [q, m, i, lo, hi, r, u] => .need (yes (q.L = r.L ∧ m.I = r.L.length ∧ 0 ≤ i.I ∧ i.I ≤ m.I ∧ m.I ≤ 30))
     (.ite (allFrom (rowSp r.L) i.I.toNat (r.L.length - i.I.toNat)) (.leaf (.exit 0, [.i lo.I, .i hi.I, .l r.L, .l u.L])) (.leaf (.ret, [.i 2])))
 | _ => .fail
def G9 (ds : List D) : T (List D) := match ds with
 | [lo, hi, r, u] => .leaf [.b (speedsOk lo.I hi.I r.L u.L)]
 | _ => .fail
def G9_4 (ds : List D) : T (Ex × List D) := match ds with
 | [i, lo, hi, r, u] => .need (yes (0 ≤ i.I ∧ i.I ≤ r.L.length ∧ r.L.length ≤ 30))
     (.ite (allFrom (rowSp r.L) i.I.toNat (r.L.length - i.I.toNat)) (.leaf (.exit 0, [.i lo.I, .i hi.I, .l r.L, .l u.L])) (.leaf (.ret, [.b false])))
 | _ => .fail
def G9_10 (ds : List D) : T (Ex × List D) := match ds with
 | [i, _, _, _, u] => .need (yes (0 ≤ i.I ∧ i.I ≤ 9 ∧ u.L.length = 9))
     (.ite (allFrom (pctAt u.L) i.I.toNat (9 - i.I.toNat)) (.leaf (.exit 2, [])) (.leaf (.ret, [.b false])))
 | _ => .fail
def G11 : List D → T (List D) := G19
def G11_3 : List D → T (Ex × List D) := G19_3
def G8 (ds : List D) : T (List D) := match ds with
 | [p, c, j] => .leaf [.b (roadOk p.L c.L j.L && decide (lenR p.L ≤ 120))]
 | _ => .fail
def G142 (ds : List D) : T (List D) := match ds with
 | [lo, hi, r, u, a, b, c, d, e] => .need (yes (spP lo.I hi.I r.L u.L ∧ pcP a.I b.I c.I d.I e.I)) (.leaf [.i (rowLo lo.I r.L b.I c.I), .i (rowHi hi.I r.L b.I c.I)])
 | _ => .fail
def G142_4 (ds : List D) : T (Ex × List D) := match ds with
 | [i, lo, hi, r, u, _, _, c, _, _] => .need (yes (r.L.length ≤ 30 ∧ 0 ≤ i.I ∧ i.I < r.L.length ∧ ix (r.L.getD 0 []) 0 ≤ c.I)) (.leaf (.exit 0, [.i (rowI r.L c.I i.I.toNat : Nat), .i lo.I, .i hi.I, .l r.L, .l u.L]))
 | _ => .fail
def G125 (ds : List D) : T (List D) := match ds with
 | [lo, hi, r, u, a, b, c, d, e] => .need (yes (spP lo.I hi.I r.L u.L ∧ pcP a.I b.I c.I d.I e.I)) (.leaf [.i (quickV hi.I r.L u.L b.I c.I e.I)])
 | _ => .fail
def G126 (ds : List D) : T (List D) := match ds with
 | [lo, hi, r, u, a, b, c, d, e] => .need (yes (spP lo.I hi.I r.L u.L ∧ pcP a.I b.I c.I d.I e.I)) (.leaf [.i (slowV lo.I r.L u.L b.I c.I e.I)])
 | _ => .fail
def G93 (ds : List D) : T (List D) := match ds with
 | [s] => .need (yes (s.L.length ≤ 1000000)) (.leaf [.i ((s.L.length : Int) - 1)])
 | _ => .fail
def G44 (ds : List D) : T (List D) := match ds with
 | [s, p] => .need (yes (s.L.length ≤ 1000000)) (.leaf [.b (within p.I 0 ((s.L.length : Int) - 1))])
 | _ => .fail
def sumsP (s : List (List D)) : Prop := ∀ j, (0 ≤ ix (s.getD j []) 0 ∧ ix (s.getD j []) 0 ≤ 10000000000000) ∧ 0 ≤ ix (s.getD j []) 1 ∧ ix (s.getD j []) 1 ≤ 10000000000000
def G45 (ds : List D) : T (List D) := match ds with
 | [s, d, a, b] => .need (yes (sumsP s.L ∧ (d.I = 0 ∨ d.I = 1) ∧ (0 ≤ a.I ∧ a.I < s.L.length) ∧ 0 ≤ b.I ∧ b.I < s.L.length)) (.leaf [.i (ix (s.L.getD b.I.toNat []) d.I.toNat - ix (s.L.getD a.I.toNat []) d.I.toNat)])
 | _ => .fail
end
noncomputable def sp92 : SpL := []
noncomputable def lp92 : LpL := []
noncomputable def sw92 : SwL := []
noncomputable def tab92 : Tab := mkTab sp92 lp92 sw92
noncomputable def sp122 : SpL := []
noncomputable def lp122 : LpL := []
noncomputable def sw122 : SwL := []
noncomputable def tab122 : Tab := mkTab sp122 lp122 sw122
noncomputable def sp123 : SpL := [(92, mkF s92 G92)]
noncomputable def lp123 : LpL := []
noncomputable def sw123 : SwL := []
noncomputable def tab123 : Tab := mkTab sp123 lp123 sw123
noncomputable def sp1130 : SpL := [(123, mkF s123 G123)]
noncomputable def lp1130 : LpL := [(2, mkL l1130_2 G1130_2)]
noncomputable def sw1130 : SwL := []
noncomputable def tab1130 : Tab := mkTab sp1130 lp1130 sw1130
noncomputable def sp1102 : SpL := [(130, mkF s1130 G1130), (123, mkF s123 G123)]
noncomputable def lp1102 : LpL := []
noncomputable def sw1102 : SwL := []
noncomputable def tab1102 : Tab := mkTab sp1102 lp1102 sw1102
noncomputable def sp90 : SpL := [(122, mkF s122 G122), (92, mkF s92 G92), (102, mkF s1102 G1102)]
noncomputable def lp90 : LpL := [(4, mkL l90_4 G90_4)]
noncomputable def sw90 : SwL := []
noncomputable def tab90 : Tab := mkTab sp90 lp90 sw90
noncomputable def sp9 : SpL := [(40, mkF s40 G40)]
noncomputable def lp9 : LpL := [(4, mkL l9_4 G9_4), (10, mkL l9_10 G9_10)]
noncomputable def sw9 : SwL := []
noncomputable def tab9 : Tab := mkTab sp9 lp9 sw9
noncomputable def sp11 : SpL := []
noncomputable def lp11 : LpL := [(3, mkL l11_3 G11_3)]
noncomputable def sw11 : SwL := []
noncomputable def tab11 : Tab := mkTab sp11 lp11 sw11
noncomputable def sp40 : SpL := []
noncomputable def lp40 : LpL := []
noncomputable def sw40 : SwL := []
noncomputable def tab40 : Tab := mkTab sp40 lp40 sw40
noncomputable def sp8 : SpL := [(39, mkF s39 G39), (11, mkF s11 G11)]
noncomputable def lp8 : LpL := []
noncomputable def sw8 : SwL := []
noncomputable def tab8 : Tab := mkTab sp8 lp8 sw8
noncomputable def sp142 : SpL := []
noncomputable def lp142 : LpL := [(4, mkL l142_4 G142_4)]
noncomputable def sw142 : SwL := []
noncomputable def tab142 : Tab := mkTab sp142 lp142 sw142
noncomputable def sp125 : SpL := [(142, mkF s142 G142)]
noncomputable def lp125 : LpL := []
noncomputable def sw125 : SwL := []
noncomputable def tab125 : Tab := mkTab sp125 lp125 sw125
noncomputable def sp126 : SpL := [(142, mkF s142 G142)]
noncomputable def lp126 : LpL := []
noncomputable def sw126 : SwL := []
noncomputable def tab126 : Tab := mkTab sp126 lp126 sw126
noncomputable def sp93 : SpL := []
noncomputable def lp93 : LpL := []
noncomputable def sw93 : SwL := []
noncomputable def tab93 : Tab := mkTab sp93 lp93 sw93
noncomputable def sp44 : SpL := [(93, mkF s93 G93), (92, mkF s92 G92)]
noncomputable def lp44 : LpL := []
noncomputable def sw44 : SwL := []
noncomputable def tab44 : Tab := mkTab sp44 lp44 sw44
noncomputable def sp45 : SpL := []
noncomputable def lp45 : LpL := []
noncomputable def sw45 : SwL := []
noncomputable def tab45 : Tab := mkTab sp45 lp45 sw45
set_option linter.unusedVariables false
set_option maxRecDepth 100000
theorem t92 (a b c : D) : fnT C tab92 92 s92 [a, b, c] =
 T.ite (decide (a.I ≥ b.I)) (T.leaf [D.b (decide (a.I ≤ c.I))]) (T.leaf [D.b false]) := by kernel_rfl
theorem t122 (a b : D) : fnT C tab122 122 s122 [a, b] =
 T.ite (decide (a.I ≥ (1 : Int))) (T.ite (decide (a.I ≤ b.I)) (T.leaf [D.b (decide (b.I ≤ (700 : Int)))]) (T.leaf [D.b false])) (T.leaf [D.b false]) := by kernel_rfl
theorem t123 (a : D) : fnT C tab123 123 s123 [a] =
 T.leaf [D.b !within a.I (1 : Int) (100 : Int)] := by kernel_rfl
theorem t1130 (a : D) : fnT C tab1130 130 s1130 [a] =
 T.need (yes (a.L.length < big ∧ (a.L.length : Int) = (a.L.length : Int) ∧ (0 : Int) ≤ (0 : Int) ∧ (0 : Int) ≤ (a.L.length : Int))) (T.ite (decide (firstFrom (fun j => !pctAt a.L j) (Int.toNat (0 : Int)) (a.L.length - Int.toNat (0 : Int)) ≥ (0 : Int))) (T.leaf [D.i (firstFrom (fun j => !pctAt a.L j) (Int.toNat (0 : Int)) (a.L.length - Int.toNat (0 : Int)))]) (T.leaf [D.i (-1 : Int)])) := by kernel_rfl
theorem t1130_2 (a b c : D) : roundT C tab1130 130 (loopOf C.P 130 2) l1130_2 [a, b, c] =
 T.ite (decide (c.I < b.I)) (T.need (decide ((0 : Int) ≤ c.I ∧ c.I < (a.L.length : Int))) (T.ite (!within (D.I (List.getD (List.getD a.L c.I.toNat []) 0 default)) (1 : Int) (100 : Int)) (T.leaf (Rd.out Ex.ret [D.i c.I])) (T.leaf (Rd.again [D.l a.L, D.i b.I, D.i (IntKind.i64.wrap (c.I + (1 : Int)))])))) (T.leaf (Rd.out (Ex.exit 0) [])) := by kernel_rfl
theorem t1102 (a : D) : fnT C tab1102 102 s1102 [a] =
 T.need (yes (a.L.length < big)) (T.leaf [D.b (decide (firstFrom (fun j => !pctAt a.L j) 0 a.L.length ≥ (0 : Int)))]) := by kernel_rfl
theorem t90 (a b c d : D) : fnT C tab90 90 s90 [a, b, c, d] =
 T.ite (!bnd a.I b.I) (T.leaf [D.i 2]) (T.ite (!within (c.L.length : Int) (1 : Int) (30 : Int)) (T.leaf [D.i 2]) (T.ite ((d.L.length : Int) != (9 : Int)) (T.leaf [D.i 2]) (T.need (decide ((0 : Int) ≤ (0 : Int) ∧ (0 : Int) < (c.L.length : Int))) (T.ite (D.I (List.getD (List.getD c.L (Int.toNat (0 : Int)) []) 0 default) != (5 : Int)) (T.leaf [D.i 2]) (T.need (yes (c.L = c.L ∧ (c.L.length : Int) = (c.L.length : Int) ∧ (0 : Int) ≤ (0 : Int) ∧ (0 : Int) ≤ (c.L.length : Int) ∧ (c.L.length : Int) ≤ (30 : Int))) (T.ite (allFrom (rowSp c.L) (Int.toNat (0 : Int)) (c.L.length - Int.toNat (0 : Int))) (T.need (yes (d.L.length < big)) (T.ite (!allFrom (pctAt d.L) 0 d.L.length) (T.leaf [D.i 2]) (T.leaf [D.i 0]))) (T.leaf [D.i 2]))))))) := by kernel_rfl
theorem t90_4 (a b c d e f g : D) : roundT C tab90 90 (loopOf C.P 90 4) l90_4 [a, b, c, d, e, f, g] =
 T.ite (decide (c.I < b.I)) (T.need (decide ((0 : Int) ≤ c.I ∧ c.I < (a.L.length : Int))) (T.ite (!bnd (D.I (List.getD (List.getD a.L c.I.toNat []) (0 + 1) default)) (D.I (List.getD (List.getD a.L c.I.toNat []) (0 + 1 + 1) default))) (T.leaf (Rd.out Ex.ret [D.i 2])) (T.ite (decide (D.I (List.getD (List.getD a.L c.I.toNat []) 0 default) > (2000 : Int))) (T.leaf (Rd.out Ex.ret [D.i 2])) (T.ite (decide (c.I > (0 : Int))) (T.need (decide ((0 : Int) ≤ IntKind.i64.wrap (c.I - (1 : Int)) ∧ IntKind.i64.wrap (c.I - (1 : Int)) < (f.L.length : Int))) (T.ite (decide (D.I (List.getD (List.getD a.L c.I.toNat []) 0 default) ≤ D.I (List.getD (List.getD f.L (Int.toNat (IntKind.i64.wrap (c.I - (1 : Int)))) []) 0 default))) (T.leaf (Rd.out Ex.ret [D.i 2])) (T.leaf (Rd.again [D.l a.L, D.i b.I, D.i (IntKind.i64.wrap (c.I + (1 : Int))), D.i d.I, D.i e.I, D.l f.L, D.l g.L])))) (T.leaf (Rd.again [D.l a.L, D.i b.I, D.i (IntKind.i64.wrap (c.I + (1 : Int))), D.i d.I, D.i e.I, D.l f.L, D.l g.L])))))) (T.leaf (Rd.out (Ex.exit 0) [D.i d.I, D.i e.I, D.l f.L, D.l g.L])) := by kernel_rfl
theorem t9 (a b c d : D) : fnT C tab9 9 s9 [a, b, c, d] =
 T.ite (decide (a.I < (1 : Int))) (T.leaf [D.b false]) (T.ite (decide (a.I > b.I)) (T.leaf [D.b false]) (T.ite (decide (b.I > (700 : Int))) (T.leaf [D.b false]) (T.ite (!within (c.L.length : Int) (1 : Int) (30 : Int)) (T.leaf [D.b false]) (T.ite ((d.L.length : Int) != (9 : Int)) (T.leaf [D.b false]) (T.need (decide ((0 : Int) ≤ (0 : Int) ∧ (0 : Int) < (c.L.length : Int))) (T.ite (D.I (List.getD (List.getD c.L (Int.toNat (0 : Int)) []) 0 default) != (5 : Int)) (T.leaf [D.b false]) (T.need (yes ((0 : Int) ≤ (0 : Int) ∧ (0 : Int) ≤ (c.L.length : Int) ∧ c.L.length ≤ 30)) (T.ite (allFrom (rowSp c.L) (Int.toNat (0 : Int)) (c.L.length - Int.toNat (0 : Int))) (T.need (yes ((0 : Int) ≤ (0 : Int) ∧ (0 : Int) ≤ (9 : Int) ∧ d.L.length = 9)) (T.ite (allFrom (pctAt d.L) (Int.toNat (0 : Int)) (9 - Int.toNat (0 : Int))) (T.leaf [D.b true]) (T.leaf [D.b false]))) (T.leaf [D.b false]))))))))) := by kernel_rfl
theorem t9_4 (a b c d e : D) : roundT C tab9 9 (loopOf C.P 9 4) l9_4 [a, b, c, d, e] =
 T.ite (decide (a.I < (d.L.length : Int))) (T.need (decide ((0 : Int) ≤ a.I ∧ a.I < (d.L.length : Int))) (T.ite (decide (D.I (List.getD (List.getD d.L a.I.toNat []) (0 + 1) default) < (1 : Int))) (T.leaf (Rd.out Ex.ret [D.b false])) (T.ite (decide (D.I (List.getD (List.getD d.L a.I.toNat []) (0 + 1) default) > D.I (List.getD (List.getD d.L a.I.toNat []) (0 + 1 + 1) default))) (T.leaf (Rd.out Ex.ret [D.b false])) (T.ite (decide (D.I (List.getD (List.getD d.L a.I.toNat []) (0 + 1 + 1) default) > (700 : Int))) (T.leaf (Rd.out Ex.ret [D.b false])) (T.ite (decide (D.I (List.getD (List.getD d.L a.I.toNat []) 0 default) > (2000 : Int))) (T.leaf (Rd.out Ex.ret [D.b false])) (T.ite (decide (a.I > (0 : Int))) (T.need (decide ((0 : Int) ≤ IntKind.i64.wrap (a.I - (1 : Int)) ∧ IntKind.i64.wrap (a.I - (1 : Int)) < (d.L.length : Int))) (T.ite (decide (D.I (List.getD (List.getD d.L a.I.toNat []) 0 default) ≤ D.I (List.getD (List.getD d.L (Int.toNat (IntKind.i64.wrap (a.I - (1 : Int)))) []) 0 default))) (T.leaf (Rd.out Ex.ret [D.b false])) (T.leaf (Rd.again [D.i (IntKind.i64.wrap (a.I + (1 : Int))), D.i b.I, D.i c.I, D.l d.L, D.l e.L])))) (T.leaf (Rd.again [D.i (IntKind.i64.wrap (a.I + (1 : Int))), D.i b.I, D.i c.I, D.l d.L, D.l e.L])))))))) (T.leaf (Rd.out (Ex.exit 0) [D.i b.I, D.i c.I, D.l d.L, D.l e.L])) := by kernel_rfl
theorem t9_10 (a b c d e : D) : roundT C tab9 9 (loopOf C.P 9 10) l9_10 [a, b, c, d, e] =
 T.ite (decide (a.I < (9 : Int))) (T.need (decide ((0 : Int) ≤ a.I ∧ a.I < (e.L.length : Int))) (T.ite (!within (D.I (List.getD (List.getD e.L a.I.toNat []) 0 default)) (1 : Int) (100 : Int)) (T.leaf (Rd.out Ex.ret [D.b false])) (T.leaf (Rd.again [D.i (IntKind.i64.wrap (a.I + (1 : Int))), D.i b.I, D.i c.I, D.l d.L, D.l e.L])))) (T.leaf (Rd.out (Ex.exit 2) [])) := by kernel_rfl
theorem t11 (a b c : D) : fnT C tab11 11 s11 [a, b, c] =
 T.need (yes (a.L.length ≤ 2000 ∧ allFrom (pieceAt a.L) 0 a.L.length = true ∧ (0 : Int) ≤ (0 : Int) ∧ (0 : Int) ≤ (a.L.length : Int) ∧ (0 : Int) ≤ (0 : Int) ∧ (0 : Int) ≤ (5000 : Int) * (0 : Int))) (T.leaf [D.i ((0 : Int) + lenFrom a.L (Int.toNat (0 : Int)) (a.L.length - Int.toNat (0 : Int)))]) := by kernel_rfl
theorem t11_3 (a b c d e : D) : roundT C tab11 11 (loopOf C.P 11 3) l11_3 [a, b, c, d, e] =
 T.ite (decide (b.I < (c.L.length : Int))) (T.need (decide ((0 : Int) ≤ b.I ∧ b.I < (c.L.length : Int))) (T.leaf (Rd.again [D.i (IntKind.i64.wrap (a.I + D.I (List.getD (List.getD c.L b.I.toNat []) 0 default))), D.i (IntKind.i64.wrap (b.I + (1 : Int))), D.l c.L, D.l d.L, D.l e.L]))) (T.leaf (Rd.out (Ex.exit 0) [D.i a.I])) := by kernel_rfl
theorem t40 (a b c : D) : fnT C tab40 40 s40 [a, b, c] =
 T.ite (decide (a.I ≥ b.I)) (T.leaf [D.b (decide (a.I ≤ c.I))]) (T.leaf [D.b false]) := by kernel_rfl
theorem t8 (a b c : D) : fnT C tab8 8 s8 [a, b, c] =
 T.ite (roadOk a.L b.L c.L) (T.need (yes (a.L.length ≤ 2000 ∧ allFrom (pieceAt a.L) 0 a.L.length = true)) (T.leaf [D.b (decide (lenR a.L ≤ (120 : Int)))])) (T.leaf [D.b false]) := by kernel_rfl
theorem t142 (a b c d e f g h i : D) : fnT C tab142 142 s142 [a, b, c, d, e, f, g, h, i] =
 T.ite (f.I == (0 : Int)) (T.leaf [D.i a.I, D.i b.I]) (T.need (yes (c.L.length ≤ 30 ∧ (0 : Int) ≤ IntKind.i64.wrap ((c.L.length : Int) - (1 : Int)) ∧ IntKind.i64.wrap ((c.L.length : Int) - (1 : Int)) < (c.L.length : Int) ∧ ix (List.getD c.L 0 []) 0 ≤ g.I)) (T.need (decide ((0 : Int) ≤ (↑(rowI c.L g.I (Int.toNat (IntKind.i64.wrap ((c.L.length : Int) - (1 : Int))))) : Int) ∧ (↑(rowI c.L g.I (Int.toNat (IntKind.i64.wrap ((c.L.length : Int) - (1 : Int))))) : Int) < (c.L.length : Int))) (T.need (decide ((0 : Int) ≤ (↑(rowI c.L g.I (Int.toNat (IntKind.i64.wrap ((c.L.length : Int) - (1 : Int))))) : Int) ∧ (↑(rowI c.L g.I (Int.toNat (IntKind.i64.wrap ((c.L.length : Int) - (1 : Int))))) : Int) < (c.L.length : Int))) (T.leaf [D.i (D.I (List.getD (List.getD c.L (Int.toNat (↑(rowI c.L g.I (Int.toNat (IntKind.i64.wrap ((c.L.length : Int) - (1 : Int))))) : Int)) []) (0 + 1) default)), D.i (D.I (List.getD (List.getD c.L (Int.toNat (↑(rowI c.L g.I (Int.toNat (IntKind.i64.wrap ((c.L.length : Int) - (1 : Int))))) : Int)) []) (0 + 1 + 1) default))])))) := by kernel_rfl
theorem t142_4 (a b c d e f g h i j : D) : roundT C tab142 142 (loopOf C.P 142 4) l142_4 [a, b, c, d, e, f, g, h, i, j] =
 T.need (decide ((0 : Int) ≤ a.I ∧ a.I < (d.L.length : Int))) (T.ite (decide (D.I (List.getD (List.getD d.L a.I.toNat []) 0 default) > h.I)) (T.leaf (Rd.again [D.i (IntKind.i64.wrap (a.I - (1 : Int))), D.i b.I, D.i c.I, D.l d.L, D.l e.L, D.i f.I, D.i g.I, D.i h.I, D.i i.I, D.i j.I])) (T.leaf (Rd.out (Ex.exit 0) [D.i a.I, D.i b.I, D.i c.I, D.l d.L, D.l e.L]))) := by kernel_rfl
theorem t125 (a b c d e f g h i : D) : fnT C tab125 125 s125 [a, b, c, d, e, f, g, h, i] =
 T.need (yes (spP a.I b.I c.L d.L ∧ pcP e.I f.I g.I h.I i.I)) (T.need (decide ((0 : Int) ≤ IntKind.i64.wrap (i.I - (1 : Int)) ∧ IntKind.i64.wrap (i.I - (1 : Int)) < (d.L.length : Int))) (T.need true (T.need (!IntKind.i64.wrap (Int.tdiv (IntKind.i64.wrap (IntKind.i64.wrap (rowHi b.I c.L f.I g.I * D.I (List.getD (List.getD d.L (Int.toNat (IntKind.i64.wrap (i.I - (1 : Int)))) []) 0 default)) + (99 : Int))) (100 : Int)) == (0 : Int)) (T.leaf [D.i (IntKind.i64.wrap (Int.tdiv (10000000 : Int) (IntKind.i64.wrap (Int.tdiv (IntKind.i64.wrap (IntKind.i64.wrap (rowHi b.I c.L f.I g.I * D.I (List.getD (List.getD d.L (Int.toNat (IntKind.i64.wrap (i.I - (1 : Int)))) []) 0 default)) + (99 : Int))) (100 : Int)))))])))) := by kernel_rfl
theorem t126 (a b c d e f g h i : D) : fnT C tab126 126 s126 [a, b, c, d, e, f, g, h, i] =
 T.need (yes (spP a.I b.I c.L d.L ∧ pcP e.I f.I g.I h.I i.I)) (T.need (decide ((0 : Int) ≤ IntKind.i64.wrap (i.I - (1 : Int)) ∧ IntKind.i64.wrap (i.I - (1 : Int)) < (d.L.length : Int))) (T.need true (T.need (!maxI (1 : Int) (IntKind.i64.wrap (Int.tdiv (IntKind.i64.wrap (rowLo a.I c.L f.I g.I * D.I (List.getD (List.getD d.L (Int.toNat (IntKind.i64.wrap (i.I - (1 : Int)))) []) 0 default))) (100 : Int))) == (0 : Int)) (T.leaf [D.i (IntKind.i64.wrap (Int.tdiv (IntKind.i64.wrap (IntKind.i64.wrap ((10000000 : Int) + maxI (1 : Int) (IntKind.i64.wrap (Int.tdiv (IntKind.i64.wrap (rowLo a.I c.L f.I g.I * D.I (List.getD (List.getD d.L (Int.toNat (IntKind.i64.wrap (i.I - (1 : Int)))) []) 0 default))) (100 : Int)))) - (1 : Int))) (maxI (1 : Int) (IntKind.i64.wrap (Int.tdiv (IntKind.i64.wrap (rowLo a.I c.L f.I g.I * D.I (List.getD (List.getD d.L (Int.toNat (IntKind.i64.wrap (i.I - (1 : Int)))) []) 0 default))) (100 : Int))))))])))) := by kernel_rfl
theorem t93 (a : D) : fnT C tab93 93 s93 [a] =
 T.leaf [D.i (IntKind.i64.wrap ((a.L.length : Int) - (1 : Int)))] := by kernel_rfl
theorem t44 (a b : D) : fnT C tab44 44 s44 [a, b] =
 T.need (yes (a.L.length ≤ 1000000)) (T.leaf [D.b (within b.I (0 : Int) ((a.L.length : Int) - (1 : Int)))]) := by kernel_rfl
theorem t45 (a b c d : D) : fnT C tab45 45 s45 [a, b, c, d] =
 T.need (decide ((0 : Int) ≤ d.I ∧ d.I < (a.L.length : Int))) (T.ite (decide (b.I = (↑0 : Int))) (T.need (decide ((0 : Int) ≤ c.I ∧ c.I < (a.L.length : Int))) (T.ite (decide (b.I = (↑0 : Int))) (T.leaf [D.i (IntKind.i64.wrap (D.I (List.getD (List.getD a.L d.I.toNat []) 0 default) - D.I (List.getD (List.getD a.L c.I.toNat []) 0 default)))]) (T.need (decide (b.I = (↑(0 + 1) : Int))) (T.leaf [D.i (IntKind.i64.wrap (D.I (List.getD (List.getD a.L d.I.toNat []) 0 default) - D.I (List.getD (List.getD a.L c.I.toNat []) (0 + 1) default)))])))) (T.need (decide (b.I = (↑(0 + 1) : Int))) (T.need (decide ((0 : Int) ≤ c.I ∧ c.I < (a.L.length : Int))) (T.ite (decide (b.I = (↑0 : Int))) (T.leaf [D.i (IntKind.i64.wrap (D.I (List.getD (List.getD a.L d.I.toNat []) (0 + 1) default) - D.I (List.getD (List.getD a.L c.I.toNat []) 0 default)))]) (T.need (decide (b.I = (↑(0 + 1) : Int))) (T.leaf [D.i (IntKind.i64.wrap (D.I (List.getD (List.getD a.L d.I.toNat []) (0 + 1) default) - D.I (List.getD (List.getD a.L c.I.toNat []) (0 + 1) default)))])))))) := by kernel_rfl
set_option maxRecDepth 100000
theorem ok92 (n : Nat) : FnOK C (n + 1) 92 (mkF s92 G92) := by
 refine fn_of hC (sp := sp92) (lp := lp92) trivial (by kernel_rfl) [] (by kernel_rfl) rfl (fun k hk => by cases hk) fun ds r h => ?_
 unfold G92 at h
 split at h
 ·rename_i a b c
  rw [← h]
  refine (congrArg T.run (t92 a b c)).trans (go_if (fun e => ?_) fun e => ?_)
  ·simp [within, e]
  ·simp [within, show ¬ b.I ≤ a.I from e]
 ·cases h
theorem ok40 (n : Nat) : FnOK C (n + 1) 40 (mkF s40 G40) := by
 refine fn_of hC (sp := sp40) (lp := lp40) trivial (by kernel_rfl) [] (by kernel_rfl) rfl (fun k hk => by cases hk) fun ds r h => ?_
 unfold G40 G92 at h
 split at h
 ·rename_i a b c
  rw [← h]
  refine (congrArg T.run (t40 a b c)).trans (go_if (fun e => ?_) fun e => ?_)
  ·simp [within, e]
  ·simp [within, show ¬ b.I ≤ a.I from e]
 ·cases h
theorem ok122 (n : Nat) : FnOK C (n + 1) 122 (mkF s122 G122) := by
 refine fn_of hC (sp := sp122) (lp := lp122) trivial (by kernel_rfl) [] (by kernel_rfl) rfl (fun k hk => by cases hk) fun ds r h => ?_
 unfold G122 at h
 split at h
 ·rename_i a b
  rw [← h]
  refine (congrArg T.run (t122 a b)).trans (go_if (fun e => go_if (fun e2 => ?_) fun e2 => ?_) fun e => ?_)
  ·simp [bnd, e2, show (1 : Int) ≤ a.I from e]
  ·simp [bnd, e2]
  ·simp [bnd, show ¬ (1 : Int) ≤ a.I from e]
 ·cases h
theorem ok123 (n : Nat) : FnOK C (n + 2) 123 (mkF s123 G123) := by
 refine fn_of hC (sp := sp123) (lp := lp123) ⟨ok92 n, trivial⟩ (by kernel_rfl) [] (by kernel_rfl) rfl (fun k hk => by cases hk) fun ds r h => ?_
 unfold G123 at h
 split at h
 ·exact (congrArg T.run (t123 _)).trans h
 ·cases h
theorem ok1130_2 (n : Nat) : LoopSim C (n + 2) 130 (loopOf C.P 130 2) (mkL l1130_2 G1130_2) := by
 refine loop_of hC (sp := sp1130) (lp := lp1130) ⟨ok123 n, trivial⟩ [] (by kernel_rfl) rfl (fun k hk => by cases hk) (by kernel_rfl) (fun ds => ((ds.getD 1 default).I - (ds.getD 2 default).I).toNat) fun ds r h => ?_
 unfold G1130_2 at h
 split at h
 ·rename_i l n i
  obtain ⟨hp, h⟩ := need_some h
  rw [yes_iff] at hp
  obtain ⟨h1, h2, h3, h4⟩ := hp
  have hb : big = 4611686018427387904 := rfl
  refine ⟨by rw [fuelC]; simp; omega, ?_⟩
  rw [show roundT C (mkTab sp1130 lp1130) 130 (loopOf C.P 130 2) l1130_2 [l, n, i] = _ from t1130_2 l n i]
  obtain ⟨k, hk⟩ : ∃ k : Nat, i.I = k := ⟨i.I.toNat, by omega⟩
  simp only [run_ite, run_need, run_leaf, hk, h2, Int.toNat_natCast] at h h4 ⊢
  refine first_loop (p := fun j => !pctAt l.L j) (i := k) (len := l.L.length) [D.l l.L, D.i l.L.length, D.i (k + 1 : Nat)] h ?_ ?_
  ·simp only [wrap_succ (show k < 9223372036854775807 by omega), ix_def, pctAt]
   grind
  ·intro hlt hp hh
   refine ⟨Eq.trans (need_yes (p := _) (t := _) ?_) hh, ?_⟩
   ·simp only [I_i, L_l]
    exact ⟨h1, trivial, by omega, by omega⟩
   ·show ((l.L.length : Int) - ((k + 1 : Nat) : Int)).toNat < (n.I - i.I).toNat
    omega
 ·cases h
theorem ok1130 (n : Nat) : FnOK C (n + 3) 130 (mkF s1130 G1130) := by
 refine fn_of hC (sp := sp1130) (lp := lp1130) ⟨ok123 n, trivial⟩ (by kernel_rfl) [2] (by kernel_rfl) (by kernel_rfl) (fun k hk L hL => by simp at hk; subst hk; cases hL; exact ok1130_2 n) fun ds r h => ?_
 unfold G1130 at h
 split at h
 ·rename_i l
  obtain ⟨hp, h⟩ := need_some h
  rw [yes_iff] at hp
  rw [← h]
  refine (congrArg T.run (t1130 l)).trans ?_
  refine (need_yes ⟨hp, by omega, by omega, by omega⟩).trans ?_
  simp only [run_ite, run_leaf, Int.toNat_zero, Nat.sub_zero]
  split
  ·rfl
  ·rename_i hc
   have : ¬ firstFrom (fun j => !pctAt l.L j) 0 l.L.length ≥ 0 := fun hh => hc (decide_eq_true hh)
   rw [firstFrom_neg (by omega)]
 ·cases h
theorem ok1102 (n : Nat) : FnOK C (n + 4) 102 (mkF s1102 G1102) := by
 refine fn_of hC (sp := sp1102) (lp := lp1102) ⟨ok1130 n, ok123 (n + 1), trivial⟩ (by kernel_rfl) [] (by kernel_rfl) rfl (fun k hk => by cases hk) fun ds r h => ?_
 unfold G1102 at h
 split at h
 ·rename_i l
  rw [← h]
  refine (congrArg T.run (t1102 l)).trans ?_
  rw [firstFrom_all]
  simp only [Bool.not_not]
 ·cases h
theorem ok90_4 (n : Nat) : LoopSim C (n + 4) 90 (loopOf C.P 90 4) (mkL l90_4 G90_4) := by
 refine loop_of hC (sp := sp90) (lp := lp90) ⟨ok122 (n + 3), ok92 (n + 3), ok1102 n, trivial⟩ [] (by kernel_rfl) rfl (fun k hk => by cases hk) (by kernel_rfl) (fun ds => ((ds.getD 1 default).I - (ds.getD 2 default).I).toNat) fun ds r h => ?_
 unfold G90_4 at h
 split at h
 ·rename_i q m i lo hi p u
  obtain ⟨hp, h⟩ := need_some h
  rw [yes_iff] at hp
  obtain ⟨h1, h2, h3, h4, h5⟩ := hp
  refine ⟨by rw [fuelC]; simp; omega, ?_⟩
  rw [show roundT C (mkTab sp90 lp90) 90 (loopOf C.P 90 4) l90_4 [q, m, i, lo, hi, p, u] = _ from t90_4 q m i lo hi p u]
  obtain ⟨k, hk⟩ : ∃ k : Nat, i.I = k := ⟨i.I.toNat, by omega⟩
  simp only [run_ite, run_need, run_leaf, hk, h1, h2, Int.toNat_natCast] at h h4 h5 ⊢
  refine all_loop (p := rowSp p.L) (i := k) (len := p.L.length) [D.l p.L, D.i p.L.length, D.i (k + 1 : Nat), D.i lo.I, D.i hi.I, D.l p.L, D.l u.L] h ?_ ?_
  ·simp only [rowSp, riseAt, ix_def, Nat.zero_add, Nat.reduceAdd, wrap_succ (show k < 9223372036854775807 by omega), wrap_pred (show k < 9223372036854775807 by omega), toNat_pred]
   grind
  ·intro hlt hp hh
   refine ⟨Eq.trans (need_yes (p := _) (t := _) ?_) hh, ?_⟩
   ·simp only [I_i, L_l]
    exact ⟨trivial, trivial, by omega, by omega, h5⟩
   ·show ((p.L.length : Int) - ((k + 1 : Nat) : Int)).toNat < (m.I - i.I).toNat
    omega
 ·cases h
theorem ok90 (n : Nat) : FnOK C (n + 5) 90 (mkF s90 G90) := by
 refine fn_of hC (sp := sp90) (lp := lp90) ⟨ok122 (n + 3), ok92 (n + 3), ok1102 n, trivial⟩ (by kernel_rfl) [4] (by kernel_rfl) (by kernel_rfl) (fun k hk L hL => by simp at hk; subst hk; cases hL; exact ok90_4 n) fun ds r h => ?_
 unfold G90 at h
 split at h
 ·rename_i lo hi p u
  rw [← h]
  refine (congrArg T.run (t90 lo hi p u)).trans ?_
  have hb : big = 4611686018427387904 := rfl
  simp only [run_ite, run_need, run_leaf, yes_iff, speedsOk, headSp, Int.toNat_zero, Nat.sub_zero, ix_def]
  by_cases a1 : bnd lo.I hi.I = true
  case neg => simp [a1]
  by_cases a2 : within (p.L.length : Int) 1 30 = true
  case neg => simp [a1, a2]
  have a0 := Lite.within_iff.1 a2
  by_cases a3 : u.L.length = 9
  case neg => simp [a1, a2, a3, show ¬ (u.L.length : Int) = 9 by omega]
  generalize ix (p.L.getD 0 []) 0 = x0
  by_cases a4 : x0 = 5
  case neg => simp [a1, a2, a3, a4, show 0 < p.L.length by omega]
  simp only [a1, a2, a3, a4, hb]
  cases allFrom (rowSp p.L) 0 p.L.length <;> cases allFrom (pctAt u.L) 0 9 <;> simp [show 0 < p.L.length by omega, show (p.L.length : Int) ≤ 30 by omega]
 ·cases h
theorem ok9_4 (n : Nat) : LoopSim C (n + 1) 9 (loopOf C.P 9 4) (mkL l9_4 G9_4) := by
 refine loop_of hC (sp := sp9) (lp := lp9) ⟨ok40 n, trivial⟩ [] (by kernel_rfl) rfl (fun k hk => by cases hk) (by kernel_rfl) (fun ds => (((ds.getD 3 default).L.length : Int) - (ds.getD 0 default).I).toNat) fun ds r h => ?_
 unfold G9_4 at h
 split at h
 ·rename_i i lo hi p u
  obtain ⟨hp, h⟩ := need_some h
  rw [yes_iff] at hp
  obtain ⟨h3, h4, h5⟩ := hp
  refine ⟨by rw [fuelC]; simp; omega, ?_⟩
  rw [show roundT C (mkTab sp9 lp9) 9 (loopOf C.P 9 4) l9_4 [i, lo, hi, p, u] = _ from t9_4 i lo hi p u]
  obtain ⟨k, hk⟩ : ∃ k : Nat, i.I = k := ⟨i.I.toNat, by omega⟩
  simp only [run_ite, run_need, run_leaf, hk, Int.toNat_natCast] at h h4 ⊢
  refine all_loop (p := rowSp p.L) (i := k) (len := p.L.length) [D.i (k + 1 : Nat), D.i lo.I, D.i hi.I, D.l p.L, D.l u.L] h ?_ ?_
  ·simp only [rowSp, bnd, riseAt, ix_def, Nat.zero_add, Nat.reduceAdd, wrap_succ (show k < 9223372036854775807 by omega), wrap_pred (show k < 9223372036854775807 by omega), toNat_pred]
   grind
  ·intro hlt hp hh
   refine ⟨Eq.trans (need_yes (p := _) (t := _) ?_) hh, ?_⟩
   ·simp only [I_i, L_l]
    exact ⟨by omega, by omega, h5⟩
   ·show ((p.L.length : Int) - ((k + 1 : Nat) : Int)).toNat < ((p.L.length : Int) - i.I).toNat
    omega
 ·cases h
theorem ok9_10 (n : Nat) : LoopSim C (n + 1) 9 (loopOf C.P 9 10) (mkL l9_10 G9_10) := by
 refine loop_of hC (sp := sp9) (lp := lp9) ⟨ok40 n, trivial⟩ [] (by kernel_rfl) rfl (fun k hk => by cases hk) (by kernel_rfl) (fun ds => (9 - (ds.getD 0 default).I).toNat) fun ds r h => ?_
 unfold G9_10 at h
 split at h
 ·rename_i i lo hi p u
  obtain ⟨hp, h⟩ := need_some h
  rw [yes_iff] at hp
  obtain ⟨h3, h4, h5⟩ := hp
  refine ⟨by rw [fuelC]; simp; omega, ?_⟩
  rw [show roundT C (mkTab sp9 lp9) 9 (loopOf C.P 9 10) l9_10 [i, lo, hi, p, u] = _ from t9_10 i lo hi p u]
  obtain ⟨k, hk⟩ : ∃ k : Nat, i.I = k := ⟨i.I.toNat, by omega⟩
  simp only [run_ite, run_need, run_leaf, hk, h5, Int.toNat_natCast] at h h4 ⊢
  refine all_loop (p := pctAt u.L) (i := k) (len := 9) [D.i (k + 1 : Nat), D.i lo.I, D.i hi.I, D.l p.L, D.l u.L] h ?_ ?_
  ·simp only [pctAt, ix_def, wrap_succ (show k < 9223372036854775807 by omega)]
   grind
  ·intro hlt hp hh
   refine ⟨Eq.trans (need_yes (p := _) (t := _) ?_) hh, ?_⟩
   ·simp only [I_i, L_l]
    exact ⟨by omega, by omega, h5⟩
   ·show ((9 : Int) - ((k + 1 : Nat) : Int)).toNat < ((9 : Int) - i.I).toNat
    omega
 ·cases h
theorem ok9 (n : Nat) : FnOK C (n + 2) 9 (mkF s9 G9) := by
 refine fn_of hC (sp := sp9) (lp := lp9) ⟨ok40 n, trivial⟩ (by kernel_rfl) [4, 10] (by kernel_rfl) (by kernel_rfl) (fun k hk L hL => by simp at hk; rcases hk with hk | hk <;> subst hk <;> cases hL; exact ok9_4 n; exact ok9_10 n) fun ds r h => ?_
 unfold G9 at h
 split at h
 ·rename_i lo hi p u
  rw [← h]
  refine (congrArg T.run (t9 lo hi p u)).trans ?_
  simp only [run_ite, run_need, run_leaf, yes_iff, speedsOk, headSp, bnd, Int.toNat_zero, Nat.sub_zero, ix_def]
  by_cases b1 : lo.I < 1
  case pos => simp [b1, show ¬ (1 : Int) ≤ lo.I by omega]
  by_cases b2 : lo.I > hi.I
  case pos => simp [b1, b2, show ¬ lo.I ≤ hi.I by omega]
  by_cases b3 : hi.I > 700
  case pos => simp [b1, b2, b3, show ¬ hi.I ≤ 700 by omega]
  by_cases a2 : within (p.L.length : Int) 1 30 = true
  case neg => simp [b1, b2, b3, a2]
  have a0 := Lite.within_iff.1 a2
  by_cases a3 : u.L.length = 9
  case neg => simp [b1, b2, b3, a2, a3, show ¬ (u.L.length : Int) = 9 by omega]
  generalize ix (p.L.getD 0 []) 0 = x0
  by_cases a4 : x0 = 5
  case neg => simp [b1, b2, b3, a2, a3, a4, show 0 < p.L.length by omega]
  simp only [a2, a3, a4, b1, b2, b3]
  cases allFrom (rowSp p.L) 0 p.L.length <;> cases allFrom (pctAt u.L) 0 9 <;> simp [show 0 < p.L.length by omega, show p.L.length ≤ 30 by omega, show (1 : Int) ≤ lo.I by omega, show lo.I ≤ hi.I by omega, show hi.I ≤ 700 by omega]
 ·cases h
theorem ok11_3 (n : Nat) : LoopSim C (n + 1) 11 (loopOf C.P 11 3) (mkL l11_3 G11_3) := by
 refine loop_of hC (sp := sp11) (lp := lp11) trivial [] (by kernel_rfl) rfl (fun k hk => by cases hk) (by kernel_rfl) (fun ds => (((ds.getD 2 default).L.length : Int) - (ds.getD 1 default).I).toNat) fun ds r h => ?_
 unfold G11_3 G19_3 at h
 split at h
 ·rename_i m i p c j
  obtain ⟨hp, h⟩ := need_some h
  rw [yes_iff] at hp
  obtain ⟨h1, h2, h3, h4, h5, h6⟩ := hp
  refine ⟨by rw [fuelC]; simp; omega, ?_⟩
  rw [show roundT C (mkTab sp11 lp11) 11 (loopOf C.P 11 3) l11_3 [m, i, p, c, j] = _ from t11_3 m i p c j]
  obtain ⟨k, hk⟩ : ∃ k : Nat, i.I = k := ⟨i.I.toNat, by omega⟩
  rw [hk] at h h4 h6 ⊢
  simp only [run_leaf, Int.toNat_natCast] at h
  by_cases hlt : (k : Int) < p.L.length
  ·have hb := lenFrom_bound (l := p.L) 1 k fun y _ hy => (allFrom_iff.1 h2) y (Nat.zero_le _) (by omega)
   simp only [lenFrom] at hb
   have w0 : IntKind.i64.wrap (m.I + ix (p.L.getD k []) 0) = m.I + ix (p.L.getD k []) 0 := wrap_id (by omega) (by omega)
   have w1 : IntKind.i64.wrap ((k : Int) + 1) = ((k + 1 : Nat) : Int) := wrap_succ (by omega)
   refine again_ok (ds' := [D.i (m.I + ix (p.L.getD k []) 0), D.i (k + 1 : Nat), D.l p.L, D.l c.L, D.l j.L]) ?_ ?_ ?_
   ·simp only [run_ite, run_need, run_leaf, hlt, decide_true, if_true, Int.toNat_natCast, ix_def, w0, w1, show (0 : Int) ≤ (k : Int) from by omega, and_self]
   ·refine (need_yes ⟨h1, h2, by simp only [I_i]; omega, by simp only [I_i, L_l]; omega, by simp only [I_i]; omega, by simp only [I_i]; omega⟩).trans ?_
    rw [← h, show p.L.length - k = (p.L.length - (k + 1)) + 1 by omega]
    simp only [run_leaf, I_i, L_l, Int.toNat_natCast, lenFrom, Int.add_assoc]
   ·show ((p.L.length : Int) - ((k + 1 : Nat) : Int)).toNat < ((p.L.length : Int) - i.I).toNat
    omega
  ·refine out_ok ?_
   rw [show p.L.length - k = 0 by omega] at h
   simp only [lenFrom, Int.add_zero, Option.some.injEq] at h
   simp only [run_ite, run_leaf, hlt, decide_false, Bool.false_eq_true, if_false, ← h]
 ·cases h
theorem ok11 (n : Nat) : FnOK C (n + 2) 11 (mkF s11 G11) := by
 refine fn_of hC (sp := sp11) (lp := lp11) trivial (by kernel_rfl) [3] (by kernel_rfl) (by kernel_rfl) (fun k hk L hL => by simp at hk; subst hk; cases hL; exact ok11_3 n) fun ds r h => ?_
 unfold G11 G19 at h
 split at h
 ·rename_i p c j
  obtain ⟨hp, h⟩ := need_some h
  rw [yes_iff] at hp
  rw [← h]
  refine (congrArg T.run (t11 p c j)).trans ?_
  refine (need_yes ⟨hp.1, hp.2, by omega, by omega, by omega, by omega⟩).trans ?_
  simp only [run_leaf, lenR, Int.zero_add, Int.toNat_zero, Nat.sub_zero]
 ·cases h
theorem ok8 (n : Nat) : FnOK C (n + 5) 8 (mkF s8 G8) := by
 refine fn_of hC (sp := sp8) (lp := lp8) ⟨ok39 n, ok11 (n + 2), trivial⟩ (by kernel_rfl) [] (by kernel_rfl) rfl (fun k hk => by cases hk) fun ds r h => ?_
 unfold G8 at h
 split at h
 ·rename_i p c j
  rw [← h]
  refine (congrArg T.run (t8 p c j)).trans (go_ite (fun e => ?_) fun e => ?_)
  ·have hm : p.L.length ≤ 2000 ∧ allFrom (pieceAt p.L) 0 p.L.length = true := by
    have e' := e
    unfold roadOk sizesOk at e'
    simp only [Bool.and_eq_true, decide_eq_true_eq, Lite.within_iff] at e'
    exact ⟨by omega, e'.1.1.1.2⟩
   refine go_yes hm ?_
   rw [e, Bool.true_and]
  ·rw [e, Bool.false_and]
 ·cases h
theorem sp_of {lo hi : Int} {r u : List (List D)} (h : spP lo hi r u) : ((1 ≤ lo ∧ lo ≤ hi) ∧ hi ≤ 700) ∧ (1 ≤ r.length ∧ r.length ≤ 30) ∧ u.length = 9 ∧ ix (r.getD 0 []) 0 = 5 ∧
    (∀ k, k < r.length → 1 ≤ ix (r.getD k []) 1 ∧ ix (r.getD k []) 1 ≤ ix (r.getD k []) 2 ∧ ix (r.getD k []) 2 ≤ 700) ∧ ∀ k, k < 9 → 1 ≤ ix (u.getD k []) 0 ∧ ix (u.getD k []) 0 ≤ 100 := by
 unfold spP speedsOk headSp bnd at h
 simp only [Bool.and_eq_true, decide_eq_true_eq, Lite.within_iff, allFrom_iff] at h
 obtain ⟨⟨⟨h1, h2, h3⟩, h4, h5, h6⟩, h7, h8⟩ := h
 refine ⟨⟨⟨h1, h2⟩, h3⟩, by omega, h5, h6, fun k hk => ?_, fun k hk => ?_⟩
 ·have := h7 k (Nat.zero_le _) (by omega)
  simp only [rowSp, bnd, Bool.and_eq_true, decide_eq_true_eq] at this
  exact ⟨this.1.1, this.1.2.1, this.1.2.2⟩
 ·have := h8 k (Nat.zero_le _) (by omega)
  simp only [pctAt, Lite.within_iff] at this
  exact this
theorem pc_of {a b c d e : Int} (h : pcP a b c d e) : (1 ≤ a ∧ a ≤ 5000) ∧ (1 ≤ e ∧ e ≤ 9) ∧ (b ≠ 0 → 5 ≤ c) := by
 unfold pcP pieceP at h
 simp only [Bool.and_eq_true, Lite.within_iff] at h
 obtain ⟨⟨⟨⟨h1, h2⟩, h3⟩, h4⟩, h5⟩ := h
 refine ⟨h1, h4, fun hb => ?_⟩
 rw [if_neg hb, Lite.within_iff] at h5
 exact h5.1
theorem rowI_le (r : List (List D)) (c : Int) : ∀ k, rowI r c k ≤ k
 | 0 => Nat.le_refl _
 | k + 1 => by
   simp only [rowI]
   split
   ·exact Nat.le_trans (rowI_le r c k) (Nat.le_succ _)
   ·exact Nat.le_refl _
theorem row_rng {lo hi : Int} {r u : List (List D)} (h : spP lo hi r u) (b c : Int) : 1 ≤ rowLo lo r b c ∧ rowLo lo r b c ≤ rowHi hi r b c ∧ rowHi hi r b c ≤ 700 := by
 obtain ⟨h1, h2, -, -, h3, -⟩ := sp_of h
 unfold rowLo rowHi
 by_cases hb : b = 0
 ·rw [if_pos hb, if_pos hb]; omega
 ·rw [if_neg hb, if_neg hb]
  have := rowI_le r c (r.length - 1)
  exact h3 _ (by omega)
theorem pct_rng {lo hi : Int} {r u : List (List D)} (h : spP lo hi r u) {e : Int} (he : 1 ≤ e ∧ e ≤ 9) : 1 ≤ pctOf u e ∧ pctOf u e ≤ 100 := (sp_of h).2.2.2.2.2 _ (by omega)
theorem ok142_4 (n : Nat) : LoopSim C n 142 (loopOf C.P 142 4) (mkL l142_4 G142_4) := by
 refine loop_ofK hC (sp := sp142) (lp := lp142) (sw := sw142) trivial trivial 0 [] (by kernel_rfl) rfl (fun k hk => by cases hk) (by kernel_rfl) (fun ds => (ds.getD 0 default).I.toNat) fun ds r h => ?_
 unfold G142_4 at h
 split at h
 ·rename_i i lo hi p u a b c d e
  obtain ⟨hp, h⟩ := need_some h
  rw [yes_iff] at hp
  obtain ⟨h1, h2, h3, h4⟩ := hp
  refine ⟨by rw [fuelC]; simp; omega, ?_⟩
  rw [show roundTK C (mkTab sp142 lp142 sw142) 142 (loopOf C.P 142 4) 0 l142_4 [i, lo, hi, p, u, a, b, c, d, e] = _ from t142_4 i lo hi p u a b c d e]
  obtain ⟨k, hk⟩ : ∃ k : Nat, i.I = k := ⟨i.I.toNat, by omega⟩
  simp only [hk, Int.toNat_natCast, ix_def] at h h2 h3 ⊢
  cases k with
  | zero =>
    refine rd_dec (by omega) (rd_neg (by omega) ?_)
    exact rd_out h
  | succ k =>
    simp only [rowI] at h
    refine rd_dec (by omega) (rd_if (fun hc => ?_) fun hc => ?_)
    ·rw [if_pos hc] at h
     have w1 : IntKind.i64.wrap (((k + 1 : Nat) : Int) - 1) = (k : Int) := by rw [show ((k + 1 : Nat) : Int) - 1 = (k : Int) by omega]; exact wrap_id (by omega) (by omega)
     rw [w1]
     refine rd_again ((need_yes ⟨h1, by simp only [I_i]; omega, by simp only [I_i, L_l]; omega, h4⟩).trans ?_) (by
      show ((k : Nat) : Int).toNat < i.I.toNat
      omega)
     simp only [I_i, L_l, Int.toNat_natCast]
     exact h
    ·rw [if_neg hc] at h
     exact rd_out h
 ·cases h
theorem ok142 (n : Nat) : FnOK C (n + 1) 142 (mkF s142 G142) := by
 refine fn_ofS hC (sp := sp142) (lp := lp142) (sw := sw142) trivial trivial (by kernel_rfl) [4] (by kernel_rfl) (by kernel_rfl) (fun k hk L hL => by simp at hk; subst hk; cases hL; exact ok142_4 n) fun ds rr h => ?_
 unfold G142 at h
 split at h
 ·rename_i lo hi r u a b c d e
  obtain ⟨hp, h⟩ := need_some h
  rw [yes_iff] at hp
  obtain ⟨hs, hq⟩ := hp
  obtain ⟨-, s1, -, s2, -, -⟩ := sp_of hs
  obtain ⟨-, -, q1⟩ := pc_of hq
  refine (congrArg T.run (t142 lo hi r u a b c d e)).trans ?_
  unfold rowLo rowHi at h
  by_cases hb : b.I = 0
  ·rw [if_pos hb, if_pos hb] at h
   exact go_true (by simpa using hb) h
  ·rw [if_neg hb, if_neg hb] at h
   have hle := rowI_le r.L c.I (r.L.length - 1)
   have w1 : IntKind.i64.wrap ((r.L.length : Int) - 1) = ((r.L.length - 1 : Nat) : Int) := by rw [show (r.L.length : Int) - 1 = ((r.L.length - 1 : Nat) : Int) by omega]; exact wrap_id (by omega) (by omega)
   simp only [w1, Int.toNat_natCast, ix_def, Nat.reduceAdd]
   refine go_false (by simpa using hb) (go_yes ⟨s1.2, by omega, by omega, by rw [s2]; exact q1 hb⟩ (go_dec (by omega) (go_dec (by omega) ?_)))
   exact h
 ·cases h
theorem tdiv_nn {a b : Int} (ha : 0 ≤ a) (hb : 0 < b) : a.tdiv b = a / b ∧ 0 ≤ a / b ∧ a / b ≤ a := ⟨Int.tdiv_eq_ediv_of_nonneg ha, Int.ediv_nonneg ha (by omega), Int.ediv_le_self _ ha⟩
theorem ok125 (n : Nat) : FnOK C (n + 2) 125 (mkF s125 G125) := by
 refine fn_ofS hC (sp := sp125) (lp := lp125) (sw := sw125) ⟨ok142 n, trivial⟩ trivial (by kernel_rfl) [] (by kernel_rfl) rfl (fun k hk => by cases hk) fun ds rr h => ?_
 unfold G125 at h
 split at h
 ·rename_i lo hi r u a b c d e
  obtain ⟨hp, h⟩ := need_some h
  rw [yes_iff] at hp
  obtain ⟨hs, hq⟩ := id hp
  obtain ⟨-, -, s3, -, -, -⟩ := sp_of hs
  obtain ⟨-, q1, -⟩ := pc_of hq
  have hr := row_rng hs b.I c.I
  have hpc := pct_rng hs q1
  refine (congrArg T.run (t125 lo hi r u a b c d e)).trans ?_
  have w1 : IntKind.i64.wrap (e.I - 1) = e.I - 1 := wrap_id (by omega) (by omega)
  have hf : ix (u.L.getD (e.I - 1).toNat []) 0 = pctOf u.L e.I := rfl
  have m1 : 0 ≤ rowHi hi.I r.L b.I c.I * pctOf u.L e.I := Int.mul_nonneg (by omega) (by omega)
  have m2 : rowHi hi.I r.L b.I c.I * pctOf u.L e.I ≤ 700 * 100 := Int.mul_le_mul (by omega) (by omega) (by omega) (by omega)
  have m3 : 1 * 1 ≤ rowHi hi.I r.L b.I c.I * pctOf u.L e.I := Int.mul_le_mul (by omega) (by omega) (by omega) (by omega)
  simp only [w1, ix_def, hf]
  unfold quickV at h
  generalize rowHi hi.I r.L b.I c.I * pctOf u.L e.I = M at m1 m2 m3 h ⊢
  have w2 : IntKind.i64.wrap M = M := wrap_id (by omega) (by omega)
  have w3 : IntKind.i64.wrap (M + 99) = M + 99 := wrap_id (by omega) (by omega)
  obtain ⟨d1, d2, d3⟩ := tdiv_nn (a := M + 99) (b := 100) (by omega) (by omega)
  have w4 : IntKind.i64.wrap ((M + 99).tdiv 100) = (M + 99).tdiv 100 := wrap_id (by omega) (by omega)
  have hpos : 1 ≤ (M + 99).tdiv 100 := by omega
  obtain ⟨d4, d5, d6⟩ := tdiv_nn (a := 10000000) (b := (M + 99).tdiv 100) (by omega) (by omega)
  have w5 : IntKind.i64.wrap ((10000000 : Int).tdiv ((M + 99).tdiv 100)) = (10000000 : Int).tdiv ((M + 99).tdiv 100) := wrap_id (by omega) (by omega)
  simp only [w2, w3, w4, w5]
  refine go_yes hp (go_dec (by omega) (go_need rfl (go_need ?_ h)))
  simp only [Bool.not_eq_true', beq_eq_false_iff_ne, ne_eq]
  omega
 ·cases h
theorem slow_rng {lo hi : Int} {r u : List (List D)} (h : spP lo hi r u) {e : Int} (he : 1 ≤ e ∧ e ≤ 9) (b c : Int) : 1 ≤ slowL lo r u b c e ∧ slowL lo r u b c e ≤ 700 := by
 have hr := row_rng h b c
 have hpc := pct_rng h he
 have m1 : 0 ≤ rowLo lo r b c * pctOf u e := Int.mul_nonneg (by omega) (by omega)
 have m2 : rowLo lo r b c * pctOf u e ≤ 700 * 100 := Int.mul_le_mul (by omega) (by omega) (by omega) (by omega)
 unfold slowL
 generalize rowLo lo r b c * pctOf u e = M at m1 m2 ⊢
 obtain ⟨d1, d2, d3⟩ := tdiv_nn (a := M) (b := 100) (by omega) (by omega)
 unfold maxI
 split <;> omega
theorem ok126 (n : Nat) : FnOK C (n + 2) 126 (mkF s126 G126) := by
 refine fn_ofS hC (sp := sp126) (lp := lp126) (sw := sw126) ⟨ok142 n, trivial⟩ trivial (by kernel_rfl) [] (by kernel_rfl) rfl (fun k hk => by cases hk) fun ds rr h => ?_
 unfold G126 at h
 split at h
 ·rename_i lo hi r u a b c d e
  obtain ⟨hp, h⟩ := need_some h
  rw [yes_iff] at hp
  obtain ⟨hs, hq⟩ := id hp
  obtain ⟨-, -, s3, -, -, -⟩ := sp_of hs
  obtain ⟨-, q1, -⟩ := pc_of hq
  have hr := row_rng hs b.I c.I
  have hpc := pct_rng hs q1
  have hsl := slow_rng hs q1 b.I c.I
  refine (congrArg T.run (t126 lo hi r u a b c d e)).trans ?_
  have w1 : IntKind.i64.wrap (e.I - 1) = e.I - 1 := wrap_id (by omega) (by omega)
  have hf : ix (u.L.getD (e.I - 1).toNat []) 0 = pctOf u.L e.I := rfl
  have m1 : 0 ≤ rowLo lo.I r.L b.I c.I * pctOf u.L e.I := Int.mul_nonneg (by omega) (by omega)
  have m2 : rowLo lo.I r.L b.I c.I * pctOf u.L e.I ≤ 700 * 100 := Int.mul_le_mul (by omega) (by omega) (by omega) (by omega)
  simp only [w1, ix_def, hf]
  have w2 : IntKind.i64.wrap (rowLo lo.I r.L b.I c.I * pctOf u.L e.I) = rowLo lo.I r.L b.I c.I * pctOf u.L e.I := wrap_id (by omega) (by omega)
  obtain ⟨d1, d2, d3⟩ := tdiv_nn (a := rowLo lo.I r.L b.I c.I * pctOf u.L e.I) (b := 100) (by omega) (by omega)
  have w4 : IntKind.i64.wrap ((rowLo lo.I r.L b.I c.I * pctOf u.L e.I).tdiv 100) = (rowLo lo.I r.L b.I c.I * pctOf u.L e.I).tdiv 100 := wrap_id (by omega) (by omega)
  have hL : maxI 1 ((rowLo lo.I r.L b.I c.I * pctOf u.L e.I).tdiv 100) = slowL lo.I r.L u.L b.I c.I e.I := rfl
  simp only [w2, w4, hL]
  unfold slowV at h
  generalize slowL lo.I r.L u.L b.I c.I e.I = L at hsl h ⊢
  have w5 : IntKind.i64.wrap (10000000 + L) = 10000000 + L := wrap_id (by omega) (by omega)
  have w6 : IntKind.i64.wrap (10000000 + L - 1) = 10000000 + L - 1 := wrap_id (by omega) (by omega)
  obtain ⟨d4, d5, d6⟩ := tdiv_nn (a := 10000000 + L - 1) (b := L) (by omega) (by omega)
  have w7 : IntKind.i64.wrap ((10000000 + L - 1).tdiv L) = (10000000 + L - 1).tdiv L := wrap_id (by omega) (by omega)
  simp only [w5, w6, w7]
  refine go_yes hp (go_dec (by omega) (go_need rfl (go_need ?_ h)))
  simp only [Bool.not_eq_true', beq_eq_false_iff_ne, ne_eq]
  omega
 ·cases h
theorem quick_slow {lo hi : Int} {r u : List (List D)} (h : spP lo hi r u) {e : Int} (he : 1 ≤ e ∧ e ≤ 9) (b c : Int) : 0 ≤ quickV hi r u b c e ∧ quickV hi r u b c e ≤ slowV lo r u b c e ∧ slowV lo r u b c e ≤ 10000700 := by
 have hr := row_rng h b c
 have hpc := pct_rng h he
 have hsl := slow_rng h he b c
 have m1 : 0 ≤ rowHi hi r b c * pctOf u e := Int.mul_nonneg (by omega) (by omega)
 have m3 : 1 * 1 ≤ rowHi hi r b c * pctOf u e := Int.mul_le_mul (by omega) (by omega) (by omega) (by omega)
 have m4 : 0 ≤ rowLo lo r b c * pctOf u e := Int.mul_nonneg (by omega) (by omega)
 have m5 : rowLo lo r b c * pctOf u e ≤ rowHi hi r b c * pctOf u e := Int.mul_le_mul_of_nonneg_right hr.2.1 (by omega)
 have hle : slowL lo r u b c e ≤ (rowHi hi r b c * pctOf u e + 99).tdiv 100 := by
  unfold slowL
  generalize rowLo lo r b c * pctOf u e = m at m4 m5 ⊢
  generalize rowHi hi r b c * pctOf u e = M at m1 m3 m5 ⊢
  have e1 := (tdiv_nn (a := m) (b := 100) (by omega) (by omega)).1
  have e2 := (tdiv_nn (a := M + 99) (b := 100) (by omega) (by omega)).1
  unfold maxI
  split <;> omega
 unfold quickV slowV
 generalize slowL lo r u b c e = L at hsl hle ⊢
 generalize (rowHi hi r b c * pctOf u e + 99).tdiv 100 = Q at hle ⊢
 obtain ⟨e1, e2, e3⟩ := tdiv_nn (a := 10000000) (b := Q) (by omega) (by omega)
 obtain ⟨e4, e5, e6⟩ := tdiv_nn (a := 10000000 + L - 1) (b := L) (by omega) (by omega)
 refine ⟨by omega, ?_, by omega⟩
 rw [e1, e4]
 refine Int.le_ediv_of_mul_le (by omega) ?_
 have h1 : 10000000 / Q * Q ≤ 10000000 := Int.ediv_mul_le _ (by omega)
 have h2 : 10000000 / Q * L ≤ 10000000 / Q * Q := Int.mul_le_mul_of_nonneg_left hle e2
 omega
theorem ok93 (n : Nat) : FnOK C (n + 1) 93 (mkF s93 G93) := by
 refine fn_ofS hC (sp := sp93) (lp := lp93) (sw := sw93) trivial trivial (by kernel_rfl) [] (by kernel_rfl) rfl (fun k hk => by cases hk) fun ds rr h => ?_
 unfold G93 at h
 split at h
 ·rename_i s
  obtain ⟨hp, h⟩ := need_some h
  rw [yes_iff] at hp
  refine (congrArg T.run (t93 s)).trans ?_
  rw [wrap_id (by omega) (by omega)]
  exact h
 ·cases h
theorem ok44 (n : Nat) : FnOK C (n + 2) 44 (mkF s44 G44) := by
 refine fn_ofS hC (sp := sp44) (lp := lp44) (sw := sw44) ⟨ok93 n, ok92 n, trivial⟩ trivial (by kernel_rfl) [] (by kernel_rfl) rfl (fun k hk => by cases hk) fun ds rr h => ?_
 unfold G44 at h
 split at h
 ·rename_i s p
  obtain ⟨hp, h⟩ := need_some h
  rw [yes_iff] at hp
  exact (congrArg T.run (t44 s p)).trans (go_yes hp h)
 ·cases h
theorem ok45 (n : Nat) : FnOK C (n + 1) 45 (mkF s45 G45) := by
 refine fn_ofS hC (sp := sp45) (lp := lp45) (sw := sw45) trivial trivial (by kernel_rfl) [] (by kernel_rfl) rfl (fun k hk => by cases hk) fun ds rr h => ?_
 unfold G45 at h
 split at h
 ·rename_i s d a b
  obtain ⟨hp, h⟩ := need_some h
  rw [yes_iff] at hp
  obtain ⟨hs, hd, ha, hb⟩ := hp
  refine (congrArg T.run (t45 s d a b)).trans ?_
  have h1 := hs a.I.toNat
  have h2 := hs b.I.toNat
  rcases hd with hd | hd
  ·rw [hd] at h ⊢
   refine go_dec (by omega) (go_pos rfl (go_dec (by omega) (go_pos rfl ?_)))
   simp only [ix_def]
   rw [wrap_id (by omega) (by omega)]
   exact h
  ·rw [hd] at h ⊢
   refine go_dec (by omega) (go_neg (by omega) (go_dec (by omega) (go_dec (by omega) (go_neg (by omega) (go_dec (by omega) ?_)))))
   simp only [ix_def, Nat.reduceAdd]
   rw [wrap_id (by omega) (by omega)]
   exact h
 ·cases h
def s124 : SigI := ⟨[.yl, .ptr 0 4 0 0, .ptr 1 3 0 0], [.box [.k (.int .i64), .k (.int .i64), .k (.ro [.int .i64, .int .i64, .int .i64]), .k (.ro [.int .i64])], .box [.k (.ro [.int .i64, .int .i64, .int .i64, .int .i64, .int .i64]), .k (.ro [.int .i64, .int .i64]), .k (.ro [.int .i64, .int .i64, .int .i64])]]⟩
def y124 : YS := mkY [.agg [.k (.int .i64), .k (.int .i64)]] [] false
def l124_2 : LSig := mkLS [0, 4, 16, 17, 18] [(43, [(0, .yl), (4, .ptr 2 2 0 0), (16, .k (.ro [.int .i64, .int .i64, .int .i64, .int .i64, .int .i64])), (17, .k (.int .i64)), (18, .k (.int .i64))], [.box [.k (.int .i64), .k (.int .i64), .k (.ro [.int .i64, .int .i64, .int .i64]), .k (.ro [.int .i64])], .box [.k (.ro [.int .i64, .int .i64, .int .i64, .int .i64, .int .i64]), .k (.ro [.int .i64, .int .i64]), .k (.ro [.int .i64, .int .i64, .int .i64])], .box [.fn 125 [.agg [.k (.int .i64), .k (.int .i64), .k (.ro [.int .i64, .int .i64, .int .i64]), .k (.ro [.int .i64])]] [], .fn 126 [.agg [.k (.int .i64), .k (.int .i64), .k (.ro [.int .i64, .int .i64, .int .i64]), .k (.ro [.int .i64])]] []]])] [(.exit 0, [], [(43, [], [.box [.k (.int .i64), .k (.int .i64), .k (.ro [.int .i64, .int .i64, .int .i64]), .k (.ro [.int .i64])], .box [.k (.ro [.int .i64, .int .i64, .int .i64, .int .i64, .int .i64]), .k (.ro [.int .i64, .int .i64]), .k (.ro [.int .i64, .int .i64, .int .i64])]])]), (.ret, [], [(43, [], [.box [.k (.int .i64), .k (.int .i64), .k (.ro [.int .i64, .int .i64, .int .i64]), .k (.ro [.int .i64])], .box [.k (.ro [.int .i64, .int .i64, .int .i64, .int .i64, .int .i64]), .k (.ro [.int .i64, .int .i64]), .k (.ro [.int .i64, .int .i64, .int .i64])]])])]
def l124_6 : LSig := mkLS [0, 4, 6, 7, 16, 17, 18, 22, 23] [(43, [(0, .yl), (4, .ptr 2 2 0 0), (6, .ptr 3 5 0 0), (7, .ptr 4 2 0 0), (16, .k (.ro [.int .i64, .int .i64, .int .i64, .int .i64, .int .i64])), (17, .k (.int .i64)), (18, .k (.int .i64)), (22, .agg [.fn 125 [.agg [.k (.int .i64), .k (.int .i64), .k (.ro [.int .i64, .int .i64, .int .i64]), .k (.ro [.int .i64])]] [], .fn 126 [.agg [.k (.int .i64), .k (.int .i64), .k (.ro [.int .i64, .int .i64, .int .i64]), .k (.ro [.int .i64])]] []]), (23, .k (.int .i64))], [.box [.k (.int .i64), .k (.int .i64), .k (.ro [.int .i64, .int .i64, .int .i64]), .k (.ro [.int .i64])], .box [.k (.ro [.int .i64, .int .i64, .int .i64, .int .i64, .int .i64]), .k (.ro [.int .i64, .int .i64]), .k (.ro [.int .i64, .int .i64, .int .i64])], .box [.fn 125 [.agg [.k (.int .i64), .k (.int .i64), .k (.ro [.int .i64, .int .i64, .int .i64]), .k (.ro [.int .i64])]] [], .fn 126 [.agg [.k (.int .i64), .k (.int .i64), .k (.ro [.int .i64, .int .i64, .int .i64]), .k (.ro [.int .i64])]] []], .box [.k (.int .i64), .k (.int .i64), .k (.int .i64), .k (.int .i64), .k (.int .i64)], .box [.k (.int .i64), .k (.int .i64)]])] [(.exit 2, [0, 4, 6, 7, 16, 17, 18], [(43, [(0, .yl), (4, .ptr 2 2 0 0), (6, .ptr 3 5 0 0), (7, .ptr 4 2 0 0), (16, .k (.ro [.int .i64, .int .i64, .int .i64, .int .i64, .int .i64])), (17, .k (.int .i64)), (18, .k (.int .i64))], [.box [.k (.int .i64), .k (.int .i64), .k (.ro [.int .i64, .int .i64, .int .i64]), .k (.ro [.int .i64])], .box [.k (.ro [.int .i64, .int .i64, .int .i64, .int .i64, .int .i64]), .k (.ro [.int .i64, .int .i64]), .k (.ro [.int .i64, .int .i64, .int .i64])], .box [.fn 125 [.agg [.k (.int .i64), .k (.int .i64), .k (.ro [.int .i64, .int .i64, .int .i64]), .k (.ro [.int .i64])]] [], .fn 126 [.agg [.k (.int .i64), .k (.int .i64), .k (.ro [.int .i64, .int .i64, .int .i64]), .k (.ro [.int .i64])]] []], .box [.k (.int .i64), .k (.int .i64), .k (.int .i64), .k (.int .i64), .k (.int .i64)], .box [.k (.int .i64), .k (.int .i64)]])])]
def l124_11 : LSig := mkLS [0, 4, 7, 16, 17, 18, 34, 35] [(43, [(0, .yl), (4, .ptr 2 2 0 0), (7, .ptr 3 2 0 0), (16, .k (.ro [.int .i64, .int .i64, .int .i64, .int .i64, .int .i64])), (17, .k (.int .i64)), (18, .k (.int .i64)), (34, .k (.int .i64)), (35, .k (.int .i64))], [.box [.k (.int .i64), .k (.int .i64), .k (.ro [.int .i64, .int .i64, .int .i64]), .k (.ro [.int .i64])], .box [.k (.ro [.int .i64, .int .i64, .int .i64, .int .i64, .int .i64]), .k (.ro [.int .i64, .int .i64]), .k (.ro [.int .i64, .int .i64, .int .i64])], .box [.fn 125 [.agg [.k (.int .i64), .k (.int .i64), .k (.ro [.int .i64, .int .i64, .int .i64]), .k (.ro [.int .i64])]] [], .fn 126 [.agg [.k (.int .i64), .k (.int .i64), .k (.ro [.int .i64, .int .i64, .int .i64]), .k (.ro [.int .i64])]] []], .box [.k (.int .i64), .k (.int .i64)]])] [(.ret, [], [(43, [], [.box [.k (.int .i64), .k (.int .i64), .k (.ro [.int .i64, .int .i64, .int .i64]), .k (.ro [.int .i64])], .box [.k (.ro [.int .i64, .int .i64, .int .i64, .int .i64, .int .i64]), .k (.ro [.int .i64, .int .i64]), .k (.ro [.int .i64, .int .i64, .int .i64])]])]), (.exit 4, [0, 4, 16, 17, 18], [(43, [(0, .yl), (4, .ptr 2 2 0 0), (16, .k (.ro [.int .i64, .int .i64, .int .i64, .int .i64, .int .i64])), (17, .k (.int .i64)), (18, .k (.int .i64))], [.box [.k (.int .i64), .k (.int .i64), .k (.ro [.int .i64, .int .i64, .int .i64]), .k (.ro [.int .i64])], .box [.k (.ro [.int .i64, .int .i64, .int .i64, .int .i64, .int .i64]), .k (.ro [.int .i64, .int .i64]), .k (.ro [.int .i64, .int .i64, .int .i64])], .box [.fn 125 [.agg [.k (.int .i64), .k (.int .i64), .k (.ro [.int .i64, .int .i64, .int .i64]), .k (.ro [.int .i64])]] [], .fn 126 [.agg [.k (.int .i64), .k (.int .i64), .k (.ro [.int .i64, .int .i64, .int .i64]), .k (.ro [.int .i64])]] []]])])]
def s91 : SigW := ⟨[.agg [.k (.int .i64), .k (.int .i64), .k (.ro [.int .i64, .int .i64, .int .i64]), .k (.ro [.int .i64])], .agg [.k (.ro [.int .i64, .int .i64, .int .i64, .int .i64, .int .i64]), .k (.ro [.int .i64, .int .i64]), .k (.ro [.int .i64, .int .i64, .int .i64])]], [], [(.fn 124 [] [.ptr 0 4 0 0, .ptr 1 3 0 0], [.box [.k (.int .i64), .k (.int .i64), .k (.ro [.int .i64, .int .i64, .int .i64]), .k (.ro [.int .i64])], .box [.k (.ro [.int .i64, .int .i64, .int .i64, .int .i64, .int .i64]), .k (.ro [.int .i64, .int .i64]), .k (.ro [.int .i64, .int .i64, .int .i64])]])]⟩
def s41 : Sig := ⟨[.agg [.k (.ro [.int .i64, .int .i64, .int .i64, .int .i64, .int .i64]), .k (.ro [.int .i64, .int .i64]), .k (.ro [.int .i64, .int .i64, .int .i64])]], [(.tup [.k (.int .i64), .k (.int .i64)], [])]⟩
def s43 : Sig := ⟨[.agg [.k (.ro [.int .i64, .int .i64, .int .i64, .int .i64, .int .i64]), .k (.ro [.int .i64, .int .i64]), .k (.ro [.int .i64, .int .i64, .int .i64])], .agg [.k (.int .i64), .k (.int .i64), .k (.ro [.int .i64, .int .i64, .int .i64]), .k (.ro [.int .i64])]], [(.tup [.nilp, .k .bool], []), (.tup [.eptr [.any, .any, .any, .k (.ro [.int .i64, .int .i64])], .k .bool], [])]⟩
def h43_8 : List Shp := [mkShp (69, [(4, .nilp), (5, .k .bool), (6, .k (.int .i64)), (8, .ptr 0 1 0 0), (9, .ptr 1 2 0 0), (32, .fn 124 [] [.any, .any])], [.box [.ptr 2 4 0 0], .box [.k (.int .i64), .k (.int .i64)], .box [.k (.ro [.int .i64, .int .i64, .int .i64, .int .i64, .int .i64]), .k (.ro [.int .i64, .int .i64]), .k (.ro [.int .i64, .int .i64, .int .i64]), .sl 3 2], .row [.int .i64, .int .i64]])]
def s12 : Sig := ⟨[.agg [.k (.ro [.int .i64, .int .i64, .int .i64, .int .i64, .int .i64]), .k (.ro [.int .i64, .int .i64]), .k (.ro [.int .i64, .int .i64, .int .i64])], .agg [.k (.int .i64), .k (.int .i64), .k (.ro [.int .i64, .int .i64, .int .i64]), .k (.ro [.int .i64])], .k (.int .i64), .k (.int .i64)], [(.tup [.k (.int .i64), .k (.int .i64), .k (.int .i64)], [])]⟩
noncomputable section
def cellT (hi : Int) (r u : List (List D)) (lo : Int) (r' u' : List (List D)) (x : List D) : List D := [.i (quickV hi r u (ix x 1) (ix x 2) (ix x 4)), .i (slowV lo r' u' (ix x 1) (ix x 2) (ix x 4))]
def metsT (hi : Int) (r u : List (List D)) (lo : Int) (r' u' : List (List D)) (p : List (List D)) : Nat → Nat → List (List D)
 | _, 0 => []
 | i, k + 1 => List.replicate (ix (p.getD i []) 0).toNat (cellT hi r u lo r' u' (p.getD i [])) ++ metsT hi r u lo r' u' p (i + 1) k
def mets (lo hi : Int) (r u p : List (List D)) : List (List D) := metsT hi r u lo r u p 0 p.length
def G124 (ds : List D) : T (List (List D)) := match ds with
 | [lo, hi, r, u, p, _, _] => .need (yes (spP lo.I hi.I r.L u.L ∧ manyP p.L)) (.leaf (mets lo.I hi.I r.L u.L p.L))
 | _ => .fail
def G124_2 (q : Nat) (ds : List D) : T (Ex × List D) := match ds with
 | [g, p', n, i, lo, hi, r, u, p, c, j, y1, y2, y3, y4, y5, y6, y7, y8] => .need (yes (p'.L = p.L ∧ manyP p.L ∧ n.I = p.L.length ∧ 0 ≤ i.I ∧ i.I ≤ n.I ∧ spP y1.I y2.I y3.L y4.L ∧ spP y5.I y6.I y7.L y8.L ∧ g.L.length ≤ q))
     (.ite (decide (q < g.L.length + (metsT y2.I y3.L y4.L y5.I y7.L y8.L p.L i.I.toNat (p.L.length - i.I.toNat)).length))
      (.leaf (.ret, [.l (g.L ++ (metsT y2.I y3.L y4.L y5.I y7.L y8.L p.L i.I.toNat (p.L.length - i.I.toNat)).take (q + 1 - g.L.length)), .i lo.I, .i hi.I, .l r.L, .l u.L, .l p.L, .l c.L, .l j.L]))
      (.leaf (.exit 0, [.l (g.L ++ metsT y2.I y3.L y4.L y5.I y7.L y8.L p.L i.I.toNat (p.L.length - i.I.toNat)), .i lo.I, .i hi.I, .l r.L, .l u.L, .l p.L, .l c.L, .l j.L])))
 | _ => .fail
def G124_6 (_ : Nat) (ds : List D) : T (Ex × List D) := match ds with
 | g :: p' :: n :: i :: x1 :: x2 :: x3 :: x4 :: x5 :: x6 :: x7 :: x8 :: [k, lo, hi, r, u, p, c, j, y1, y2, y3, y4, y5, y6, y7, y8, a, b, c', d, e, m0, m1] => .need (yes (spP x1.I x2.I x3.L x4.L ∧ spP x5.I x6.I x7.L x8.L ∧ pcP a.I b.I c'.I d.I e.I ∧
       (k.I = 0 ∨ k.I = 1 ∧ m0.I = quickV x2.I x3.L x4.L b.I c'.I e.I ∨ k.I = 2 ∧ m0.I = quickV x2.I x3.L x4.L b.I c'.I e.I ∧ m1.I = slowV x5.I x7.L x8.L b.I c'.I e.I)))
     (.leaf (.exit 2, [.l g.L, .l p'.L, .i n.I, .i i.I, .i lo.I, .i hi.I, .l r.L, .l u.L, .l p.L, .l c.L, .l j.L, .i y1.I, .i y2.I, .l y3.L, .l y4.L, .i y5.I, .i y6.I, .l y7.L, .l y8.L, .i a.I, .i b.I, .i c'.I, .i d.I, .i e.I,
      .i (quickV x2.I x3.L x4.L b.I c'.I e.I), .i (slowV x5.I x7.L x8.L b.I c'.I e.I)]))
 | _ => .fail
def G124_11 (q : Nat) (ds : List D) : T (Ex × List D) := match ds with
 | [g, p', n, i, l, k, lo, hi, r, u, p, c, j, y1, y2, y3, y4, y5, y6, y7, y8, m0, m1] => .need (yes (0 ≤ k.I ∧ k.I ≤ l.I ∧ l.I ≤ 5000 ∧ g.L.length ≤ q))
     (.ite (decide (q < g.L.length + (l.I - k.I).toNat))
      (.leaf (.ret, [.l (g.L ++ (List.replicate (l.I - k.I).toNat [.i m0.I, .i m1.I]).take (q + 1 - g.L.length)), .i lo.I, .i hi.I, .l r.L, .l u.L, .l p.L, .l c.L, .l j.L]))
      (.leaf (.exit 4, [.l (g.L ++ List.replicate (l.I - k.I).toNat [.i m0.I, .i m1.I]), .l p'.L, .i n.I, .i i.I, .i lo.I, .i hi.I, .l r.L, .l u.L, .l p.L, .l c.L, .l j.L, .i y1.I, .i y2.I, .l y3.L, .l y4.L, .i y5.I, .i y6.I, .l y7.L, .l y8.L])))
 | _ => .fail
def G91 (ds : List D) : T (List D) := match ds with
 | [lo, hi, r, u, p, c, j] => .leaf [.i lo.I, .i hi.I, .l r.L, .l u.L, .l p.L, .l c.L, .l j.L]
 | _ => .fail
def G41 (ds : List D) : T (List D) := match ds with
 | [p, c, j] => .ite (roadOk p.L c.L j.L) (.leaf [.i (lenR p.L), .i 0]) (.leaf [.i 0, .i 2])
 | _ => .fail
def cumL : Int → Int → List (List D) → List (List D)
 | _, _, [] => []
 | a, d, x :: L => [.i (a + ix x 0), .i (d + ix x 1)] :: cumL (a + ix x 0) (d + ix x 1) L
def sumI (k : Nat) (L : List (List D)) : Int := (L.map fun x => ix x k).sum
def outM (a d : Int) (o : List (List D)) (s : Nat) : List (List D) → List (List D)
 | [] => o
 | x :: L => o.take s ++ cumL a d (x :: L)
def metP (x : List D) : Prop := x = [.i (ix x 0), .i (ix x 1)] ∧ (0 ≤ ix x 0 ∧ ix x 0 ≤ 20000000) ∧ 0 ≤ ix x 1 ∧ ix x 1 ≤ 20000000
def G43_8 (L : List (List D)) (ds : List D) : T (Ex × List D) := match ds with
 | [b, n, a, d, p, c, j, s, o] => .need (yes ((1 ≤ s.I ∧ s.I ≤ o.L.length) ∧ s.I + L.length ≤ 200000 ∧ (∀ x ∈ L, metP x) ∧ (0 ≤ a.I ∧ a.I ≤ 20000000 * s.I) ∧ 0 ≤ d.I ∧ d.I ≤ 20000000 * s.I))
     (.leaf (.normal, [.b b.B, .i n.I, .i (a.I + sumI 0 L), .i (d.I + sumI 1 L), .l p.L, .l c.L, .l j.L, .i (s.I + L.length), .l (outM a.I d.I o.L s.I.toNat L)]))
 | _ => .fail
def sumsM (lo hi : Int) (r u p : List (List D)) : List (List D) := [.i 0, .i 0] :: cumL 0 0 (mets lo hi r u p)
def G43 (ds : List D) : T (List D) := match ds with
 | [p, c, j, lo, hi, r, u] => .ite (roadOk p.L c.L j.L && speedsOk lo.I hi.I r.L u.L) (.leaf [.i 1, .l (sumsM lo.I hi.I r.L u.L p.L), .b true]) (.leaf [.i 0, .b false])
 | _ => .fail
def sumAtM (k : Nat) (lo hi : Int) (r u p : List (List D)) (x : Int) : Int := ix ((sumsM lo hi r u p).getD x.toNat []) k
def betwB (lo hi : Int) (r u p c j : List (List D)) (a b : Int) : Bool := roadOk p c j && speedsOk lo hi r u && within a 0 (lenR p) && within b 0 (lenR p) && decide (a ≤ b)
def G12 (ds : List D) : T (List D) := match ds with
 | [p, c, j, lo, hi, r, u, a, b] => .ite (betwB lo.I hi.I r.L u.L p.L c.L j.L a.I b.I)
     (.leaf [.i (sumAtM 0 lo.I hi.I r.L u.L p.L b.I - sumAtM 0 lo.I hi.I r.L u.L p.L a.I), .i (sumAtM 1 lo.I hi.I r.L u.L p.L b.I - sumAtM 1 lo.I hi.I r.L u.L p.L a.I), .i 0]) (.leaf [.i 0, .i 0, .i 2])
 | _ => .fail
end
noncomputable def sp124 : SpL := [(125, mkF s125 G125), (126, mkF s126 G126)]
noncomputable def lp124 (q : Nat) : LpL := [(2, mkLY 2 l124_2 (G124_2 q)), (6, mkLY 2 l124_6 (G124_6 q)), (11, mkLY 2 l124_11 (G124_11 q))]
noncomputable def sw124 : SwL := []
noncomputable def tab124 (q : Nat) : Tab := mkTabY sp124 (lp124 q) sw124 y124 q
noncomputable def sp91 : SpL := []
noncomputable def lp91 : LpL := []
noncomputable def sw91 : SwL := []
noncomputable def tab91 : Tab := mkTab sp91 lp91 sw91
noncomputable def sp41 : SpL := [(51, mkF s51 G51), (53, mkF s53 G53)]
noncomputable def lp41 : LpL := []
noncomputable def sw41 : SwL := [(52, mkFW s52 G52)]
noncomputable def tab41 : Tab := mkTab sp41 lp41 sw41
noncomputable def it43_8 : ItL := [(124, mkFY s124 G124)]
noncomputable def sp43 : SpL := [(41, mkF s41 G41), (90, mkF s90 G90)]
noncomputable def lp43 : LpL := []
noncomputable def sw43 : SwL := [(91, mkFW s91 G91)]
noncomputable def rg43 : LpL := [(8, rangeS 0 [4, 5, 6, 8, 9, 32] (rangeOf C.P 43 8).1 it43_8 h43_8 G43_8)]
noncomputable def tab43 : Tab := mkTabR sp43 lp43 sw43 rg43
noncomputable def sp12 : SpL := [(43, mkF s43 G43), (44, mkF s44 G44), (45, mkF s45 G45)]
noncomputable def lp12 : LpL := []
noncomputable def sw12 : SwL := []
noncomputable def tab12 : Tab := mkTab sp12 lp12 sw12
end Go.Proofs.Ytgoedfonmocafaa
