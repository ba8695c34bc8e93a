/-
  What the claim top_fuelled rests on, part 6.
-/
import Derived.Test.YtgoedfonmocafaaZ5
import Derived.Test.YtgoedfonmocafaaProg
namespace Go.Proofs.Ytgoedfonmocafaa
open Go.Lite
def annL : List (Nat × Nat × List Nat) :=
  [(3, 5, [2, 3, 4, 5, 6, 7, 8, 15, 16]),
   (3, 13, [3, 4, 5, 6, 7, 8, 15, 17, 18]),
   (3, 31, [3, 5, 6, 7, 8, 15, 17, 23, 25, 26]),
   (4, 5, [2, 3, 4, 5, 6, 7, 13, 14]),
   (5, 6, [1, 2, 3, 4, 5, 6, 13, 15]),
   (5, 24, [2, 3, 4, 5, 28, 30, 31]),
   (6, 10, [2, 3, 4, 7, 9, 10, 11, 12]),
   (6, 26, [2, 3, 4, 7, 9, 11, 17, 19, 21]),
   (7, 4, [1, 2, 3, 4, 5, 6, 13]),
   (7, 14, [1, 2, 3, 4, 5, 6, 14, 16]),
   (7, 28, [2, 3, 4, 5, 6, 14, 17, 18, 19, 23]),
   (7, 35, [2, 3, 4, 5, 6, 14, 17, 18, 19, 23, 24, 25]),
   (7, 42, [2, 3, 5, 19, 29, 30]),
   (9, 4, [1, 3]),
   (9, 10, [1, 5]),
   (11, 3, [1, 3, 4]),
   (13, 4, [3, 9]),
   (14, 8, [0, 1, 2, 3, 10, 11, 12, 13, 34, 35, 36]),
   (14, 15, [0, 1, 2, 3, 10, 11, 16]),
   (14, 21, [0, 1, 2, 3, 17, 18, 81, 82, 83]),
   (16, 5, [1, 3, 4]),
   (18, 11, [3, 4, 5, 6, 7, 10, 42]),
   (18, 16, [3, 4, 5, 6, 10, 68, 69, 70]),
   (18, 23, [4, 5, 6, 10, 92, 93, 94]),
   (19, 3, [1, 3, 4]),
   (20, 10, [2, 5, 6, 41, 42]),
   (20, 15, [2, 5, 6, 60, 61]),
   (20, 20, [2, 5, 6, 80, 81]),
   (22, 3, [1, 2, 3, 7, 8]),
   (24, 4, [1, 3]),
   (26, 7, [1, 2, 3, 5, 16]),
   (27, 4, [0, 5]),
   (27, 9, [0, 5, 6]),
   (28, 6, [0, 1, 6, 7, 22, 23]),
   (29, 5, [0, 1, 2, 9, 23, 24, 25]),
   (31, 4, [0, 1, 2, 3, 4, 26, 27, 28]),
   (32, 4, [1, 3]),
   (35, 5, [2, 3, 5, 58, 59, 60]),
   (36, 3, [2, 3, 4, 5, 8, 9, 10]),
   (37, 8, [3, 4, 11, 12, 13]),
   (37, 11, [3, 4, 11, 12, 13, 14]),
   (37, 14, [3, 4, 11, 12, 13, 14, 69, 70, 71]),
   (38, 4, [1, 19, 20, 21]),
   (38, 10, [1, 5, 19, 20, 21, 61, 62, 63]),
   (39, 4, [1, 3]),
   (39, 10, [1, 4, 5]),
   (39, 16, [1, 4, 7]),
   (42, 4, [0, 1, 5]),
   (43, 8, [4, 5, 6, 8, 9, 32]),
   (48, 3, [0, 1, 4, 11, 12, 17, 18, 19]),
   (49, 4, [0, 1, 5]),
   (49, 9, [0, 1, 5, 6]),
   (51, 5, [1, 3, 28, 29, 30]),
   (51, 14, [1, 3, 45, 46, 47]),
   (51, 20, [1, 3, 81, 82, 83]),
   (52, 4, [3, 4, 11, 12, 13]),
   (59, 1, [0, 2, 3]),
   (60, 1, [0, 2, 3]),
   (61, 1, [0, 2, 3]),
   (65, 3, [2, 3, 9, 10, 13, 14, 15]),
   (66, 4, [1, 3]),
   (66, 12, [1, 3, 4, 5]),
   (68, 4, [0, 1, 5]),
   (69, 5, [1, 3, 24, 25, 26]),
   (71, 4, [2, 3, 6, 7, 8, 24, 25, 26]),
   (71, 9, [2, 6, 7, 8, 45, 46]),
   (72, 3, [2, 3, 6, 7, 15, 16, 17]),
   (73, 2, [0, 7, 8, 9]),
   (73, 7, [0, 3, 4, 7, 8, 9, 25, 26, 27]),
   (75, 2, [0, 1, 9, 10, 11]),
   (76, 3, [0, 3, 4]),
   (77, 3, [1, 2, 9, 10, 15, 16, 17]),
   (77, 9, [1, 2, 9, 10, 12, 15, 16, 17, 30, 31, 32]),
   (78, 3, [1, 4, 5, 12, 13, 14]),
   (82, 4, [3, 5]),
   (84, 3, [7, 17, 18, 19]),
   (86, 3, [2, 3, 4, 5, 9, 19, 20]),
   (86, 9, [2, 4, 9, 33, 34]),
   (86, 12, [2, 4, 9, 11, 33, 34, 40, 41]),
   (86, 17, [2, 4, 9, 11, 33, 34, 49, 50, 51]),
   (87, 2, [1, 2, 8, 9, 10]),
   (90, 4, [1, 33, 34, 35]),
   (98, 1, [0, 1, 9, 10, 11]),
   (100, 2, [0, 5, 6, 7]),
   (108, 3, [5, 12, 13]),
   (109, 7, [1, 6, 7, 29, 30]),
   (109, 12, [1, 6, 7, 8, 9]),
   (111, 2, [0, 1, 3, 12, 13, 14]),
   (111, 7, [0, 1, 3]),
   (111, 9, [0, 1, 3, 6]),
   (113, 3, [1, 5, 15, 16, 17]),
   (114, 3, [0, 1, 6, 18, 19]),
   (114, 9, [0, 1, 6, 8, 30, 31]),
   (114, 12, [0, 1, 6, 8, 30, 31, 36, 37, 38]),
   (119, 3, [2, 4, 6, 7, 15, 16]),
   (119, 9, [2, 6, 7, 9]),
   (119, 14, [2, 6, 7, 9, 51]),
   (121, 1, [0, 2, 3, 8, 9, 10]),
   (124, 2, [0, 4, 16, 17, 18]),
   (124, 6, [0, 4, 6, 7, 16, 17, 18, 22, 23]),
   (124, 11, [0, 4, 7, 16, 17, 18, 34, 35]),
   (127, 2, [0, 1, 7, 8]),
   (128, 7, [2, 9, 10]),
   (129, 2, [0, 1, 7, 8]),
   (130, 2, [0, 1, 7, 8]),
   (131, 2, [0, 1, 7, 8]),
   (136, 1, [0, 2, 3]),
   (142, 4, [2, 3, 6]),
   (143, 2, [0, 1, 7, 8]),
   (144, 2, [0, 1, 7, 8]),
   (145, 0, [0, 1]),
   (174, 2, [0, 1, 2, 7])]
def annXL : List (Nat × Nat × Option Nat × List Nat) :=
  [(3, 5, some 0, [3, 4, 5, 6, 7, 8, 15]),
   (3, 5, none, [14]),
   (3, 13, some 2, [3, 5, 6, 7, 8, 15, 17]),
   (3, 13, none, [14]),
   (3, 31, some 4, []),
   (3, 31, none, [14]),
   (4, 5, some 0, [3, 4, 5, 6, 7, 13]),
   (4, 5, none, [12]),
   (5, 6, some 0, [2, 3, 4, 5]),
   (5, 6, none, [12]),
   (5, 24, some 2, [2, 3, 4, 28]),
   (5, 24, none, [12]),
   (6, 10, some 0, [2, 3, 4, 7, 9, 10]),
   (6, 10, none, [6]),
   (6, 26, some 2, []),
   (6, 26, none, [6]),
   (7, 4, some 0, [1, 2, 3, 4, 5, 6]),
   (7, 4, none, [12]),
   (7, 14, some 2, [1, 2, 3, 4, 5, 6, 14]),
   (7, 14, none, [12]),
   (7, 28, some 4, [2, 3, 4, 5, 19]),
   (7, 28, none, [12]),
   (7, 35, some 6, [2, 3, 4, 5, 6, 14, 17, 18, 19, 23]),
   (7, 35, none, [12]),
   (7, 42, some 8, [3, 5, 19, 29]),
   (7, 42, none, [12]),
   (9, 4, some 0, [1]),
   (9, 4, none, [2]),
   (9, 10, some 2, []),
   (9, 10, none, [2]),
   (11, 3, some 0, [3]),
   (11, 3, none, [2]),
   (13, 4, some 0, []),
   (13, 4, none, [8]),
   (14, 8, some 0, [0, 1, 2, 3, 10, 11]),
   (14, 8, none, [8, 9]),
   (14, 15, some 2, [0, 1, 2, 3, 10, 11]),
   (14, 15, none, [8, 9]),
   (14, 21, some 4, [0, 1, 2, 3, 17]),
   (14, 21, none, [8, 9]),
   (16, 5, some 0, []),
   (16, 5, none, [2]),
   (18, 16, some 2, [3, 4, 5, 6, 10]),
   (18, 16, none, [6, 7]),
   (18, 23, some 4, [6, 10]),
   (18, 23, none, [6, 7]),
   (19, 3, some 0, [3]),
   (19, 3, none, [2]),
   (20, 10, some 0, [2, 5, 6]),
   (20, 10, none, [2, 3]),
   (20, 15, some 2, [2, 5, 6]),
   (20, 15, none, [2, 3]),
   (20, 20, some 4, [2, 6]),
   (20, 20, none, [2, 3]),
   (22, 3, some 0, [7]),
   (22, 3, none, [6]),
   (24, 4, some 0, [1]),
   (24, 4, none, [2]),
   (27, 4, some 0, []),
   (27, 4, none, [4]),
   (27, 9, some 2, [0, 5]),
   (27, 9, none, [4]),
   (28, 6, some 0, [7]),
   (28, 6, none, [4, 5]),
   (29, 5, some 0, [0, 1, 9]),
   (29, 5, none, [6, 7, 8]),
   (31, 4, some 0, [0, 1, 2, 3, 4]),
   (31, 4, none, [10]),
   (32, 4, some 0, []),
   (32, 4, none, [2]),
   (35, 5, some 0, []),
   (35, 5, none, [4]),
   (36, 3, some 0, [8, 9]),
   (36, 3, none, [8]),
   (37, 8, some 0, [3, 4, 11, 12, 13]),
   (37, 8, none, [8, 9, 10]),
   (37, 11, some 2, [11, 14]),
   (37, 11, none, [8, 9, 10]),
   (37, 14, some 3, [3, 4, 11, 12, 13, 14]),
   (37, 14, some 4, [3, 4, 11, 12, 13, 14]),
   (37, 14, none, [8, 9, 10]),
   (38, 4, some 0, []),
   (38, 4, none, [2]),
   (38, 10, some 2, [1, 19, 20, 21]),
   (38, 10, none, [2]),
   (39, 4, some 0, [1]),
   (39, 4, none, [2]),
   (39, 10, some 2, [1, 4]),
   (39, 10, none, [2]),
   (39, 16, some 4, [4]),
   (39, 16, none, [2]),
   (42, 4, some 0, []),
   (42, 4, none, [4]),
   (48, 3, some 0, []),
   (48, 3, none, [10]),
   (49, 4, some 0, []),
   (49, 4, none, [4]),
   (49, 9, some 2, [0, 1, 5]),
   (49, 9, none, [4]),
   (51, 5, some 0, [1, 3]),
   (51, 5, none, [2]),
   (51, 14, some 2, [1, 3]),
   (51, 14, none, [2]),
   (51, 20, some 4, []),
   (51, 20, none, [2]),
   (52, 4, some 0, [3, 4]),
   (52, 4, none, [2]),
   (59, 1, some 0, []),
   (59, 1, none, []),
   (60, 1, some 0, []),
   (60, 1, none, []),
   (61, 1, some 0, []),
   (61, 1, none, []),
   (65, 3, some 0, [2, 9, 10]),
   (65, 3, none, [6, 7, 8]),
   (66, 4, some 0, []),
   (66, 4, none, [2]),
   (66, 12, some 2, [1, 3]),
   (66, 12, none, [2]),
   (68, 4, some 0, []),
   (68, 4, none, [4]),
   (69, 5, some 0, []),
   (69, 5, none, [2]),
   (71, 4, some 0, [2, 6, 7, 8]),
   (71, 4, none, [6, 7]),
   (71, 4, some 1000000, [6, 7]),
   (71, 9, some 2, [2, 6, 7, 8]),
   (71, 9, none, [6, 7]),
   (71, 9, some 1000000, [6, 7]),
   (72, 3, some 0, [6, 7]),
   (72, 3, none, [6]),
   (73, 2, some 0, [0]),
   (73, 2, none, [2]),
   (73, 7, some 2, [0, 7, 8, 9]),
   (73, 7, none, [2]),
   (75, 2, some 0, [0, 1]),
   (75, 2, none, [4]),
   (76, 3, some 0, [3]),
   (76, 3, none, [2]),
   (77, 3, some 0, [1, 9, 10]),
   (77, 3, none, [6, 7, 8]),
   (77, 9, some 2, [1, 2, 9, 10, 12, 15, 16, 17]),
   (77, 9, none, [6, 7, 8]),
   (78, 3, some 0, [4, 5]),
   (78, 3, none, [4]),
   (82, 4, some 0, []),
   (82, 4, none, [4]),
   (84, 3, some 0, [7]),
   (84, 3, none, [6]),
   (86, 3, some 0, [2, 3, 4, 5, 9]),
   (86, 3, none, [8]),
   (86, 9, some 2, [2, 9]),
   (86, 9, none, [8]),
   (86, 12, some 4, [2, 4, 9, 11, 33, 34]),
   (86, 12, none, [8]),
   (86, 17, some 6, [2, 4, 11, 33, 34]),
   (86, 17, none, [8]),
   (87, 2, some 0, [1]),
   (87, 2, none, [4]),
   (90, 4, some 0, [1]),
   (90, 4, none, [2]),
   (98, 1, some 0, []),
   (98, 1, none, []),
   (100, 2, some 0, [0]),
   (100, 2, none, [2]),
   (108, 3, some 0, [5]),
   (108, 3, none, [4]),
   (109, 7, some 0, [1, 6, 7]),
   (109, 7, none, [2, 3]),
   (109, 12, some 2, [8]),
   (109, 12, none, [2, 3]),
   (111, 2, some 0, [0, 1, 3]),
   (111, 2, none, []),
   (111, 7, none, []),
   (111, 9, some 4, [0, 1, 3, 6]),
   (111, 9, none, []),
   (113, 3, some 0, [5]),
   (113, 3, none, [4]),
   (114, 3, some 0, [0, 1, 6]),
   (114, 3, none, [4, 5]),
   (114, 9, some 2, [6, 8]),
   (114, 9, none, [4, 5]),
   (114, 12, some 4, [0, 1, 6, 8, 30, 31]),
   (114, 12, none, [4, 5]),
   (119, 3, some 0, [2, 4, 6, 7]),
   (119, 3, none, [6]),
   (119, 9, some 2, [7]),
   (119, 9, none, [6]),
   (121, 1, some 0, []),
   (121, 1, none, []),
   (124, 2, some 0, []),
   (124, 2, none, []),
   (124, 6, some 2, [0, 4, 6, 7, 16, 17, 18]),
   (124, 6, none, []),
   (124, 11, some 4, [0, 4, 16, 17, 18]),
   (124, 11, none, []),
   (127, 2, some 0, []),
   (127, 2, none, [4]),
   (128, 7, some 0, [9]),
   (128, 7, none, [8]),
   (129, 2, some 0, []),
   (129, 2, none, [4]),
   (130, 2, some 0, []),
   (130, 2, none, [4]),
   (131, 2, some 0, []),
   (131, 2, none, [4]),
   (136, 1, some 0, []),
   (136, 1, none, []),
   (142, 4, some 0, [2, 6]),
   (142, 4, none, [4, 5]),
   (143, 2, some 0, []),
   (143, 2, none, [4]),
   (144, 2, some 0, []),
   (144, 2, none, [4]),
   (145, 0, some 0, []),
   (145, 0, none, []),
   (174, 2, some 0, [1, 7]),
   (174, 2, none, [6])]
def annOf (f : FuncId) (k : Nat) : Option (List Nat) := (annL.find? fun x => x.1 == f && x.2.1 == k).map (·.2.2)
def annXOf (f : FuncId) (k : Nat) (e : Option Nat) : Option (List Nat) := (annXL.find? fun x => x.1 == f && x.2.1 == k && x.2.2.1 == e).map (·.2.2.2)
def wrL : List (Nat × List Bool) := [(52, [true]), (54, [true]), (59, [true]), (60, [true]), (61, [true]), (91, [true, true]), (136, [true]), (70, [true]), (72, [false, false, true]), (114, [false, true]), (113, [true, true]), (164, [true])]
def wrOf (f : FuncId) : List Bool := ((wrL.find? fun x => x.1 == f).map (·.2)).getD []
noncomputable def C : Cfg := { P := Try.prog, ty := tyOf Try.prog, wr := wrOf, ann := annOf, annX := annXOf, fuel := 2 ^ 64, frz := fun f => f == 18 || f == 20 || f == 22 || f == 43, give := fun f k => f == 26 && k == 7, ext := fun _ => none, alts := fun t => if t = 211 then [239, 241, 244] else [] }
theorem own : ownKnob Try.prog.godebug = none := by kernel_rfl
theorem mixed : C.P.follows .mixedOrders = true := by kernel_rfl
def fnOk (fn : Func) : Bool := match fn.body with
  | none => true
  | some c => fn.name != "runtime.NumGoroutine" && regsOk c
theorem fnsOk : Try.prog.funcs.toList.all fnOk = true := by kernel_rfl
theorem fn_ok {f : FuncId} {fn : Func} {c : Code} (h : Try.prog.funcs[f]? = some fn) (hb : fn.body = some c) : fn.name ≠ "runtime.NumGoroutine" ∧ regsOk c = true := by
  have hm : fn ∈ Try.prog.funcs := Array.mem_of_getElem? h
  have := List.all_eq_true.1 fnsOk fn (by simpa using hm)
  unfold fnOk at this
  rw [hb] at this
  simpa using this
theorem callsOk (n : Nat) : CallOK C.P (callA C n) := by
  refine calls_ok (C := C) ?_ ?_ mixed ?_ ?_ n
  · intro t T h
    dsimp only [C] at h ⊢
    exact h
  · intro f E h
    delta C at h
    cases h
  · intro f fn h hb
    obtain ⟨c, hc⟩ := Option.isSome_iff_exists.1 hb
    exact (fn_ok h hc).1
  · exact fun f fn c h hb => (fn_ok h hb).2
end Go.Proofs.Ytgoedfonmocafaa
namespace Go.Proofs.Ytgoedfonmocafaa
open Go.Lite
def s64 : Sig := ⟨[.k (.int .i64), .k (.int .i64), .k (.int .i64)], [(.k .bool, [])]⟩
def s46 : Sig := ⟨[.k (.int .i64), .k (.int .i64), .k (.int .i64)], [(.k .bool, [])]⟩
end Go.Proofs.Ytgoedfonmocafaa
namespace Go.Proofs.Ytgoedfonmocafaa
open Go.Lite
noncomputable section
def G64 (ds : List D) : T (List D) := match ds with
  | [a, b, c] => .leaf [.b (within a.I b.I c.I)]
  | _ => .fail
def G46 (ds : List D) : T (List D) := match ds with
  | [a, b, c] => .leaf [.b (within a.I b.I c.I)]
  | _ => .fail
end
end Go.Proofs.Ytgoedfonmocafaa
namespace Go.Proofs.Ytgoedfonmocafaa
open Go.Lite
noncomputable def sp64 : SpL := []
noncomputable def lp64 : LpL := []
noncomputable def sw64 : SwL := []
noncomputable def tab64 : Tab := mkTab sp64 lp64 sw64
noncomputable def sp46 : SpL := []
noncomputable def lp46 : LpL := []
noncomputable def sw46 : SwL := []
noncomputable def tab46 : Tab := mkTab sp46 lp46 sw46
end Go.Proofs.Ytgoedfonmocafaa
namespace Go.Proofs.Ytgoedfonmocafaa
open Go.Lite
set_option linter.unusedVariables false
set_option maxRecDepth 100000
theorem t64 (a b c : D) : fnT C tab64 64 s64 [a, b, c] =
  T.ite (decide (a.I ≥ b.I)) (T.leaf [D.b (decide (a.I ≤ c.I))]) (T.leaf [D.b false]) := by kernel_rfl
theorem t46 (a b c : D) : fnT C tab46 46 s46 [a, b, c] =
  T.ite (decide (a.I ≥ b.I)) (T.leaf [D.b (decide (a.I ≤ c.I))]) (T.leaf [D.b false]) := by kernel_rfl
end Go.Proofs.Ytgoedfonmocafaa
namespace Go.Proofs.Ytgoedfonmocafaa
open Go.Lite
theorem hC : ∀ t Y, C.ty t = some Y → tyOf C.P t = some Y := by
  intro t Y h
  dsimp only [C] at h ⊢
  exact h
theorem fuelC : C.fuel = 18446744073709551616 := by kernel_rfl
theorem ok64 (n : Nat) : FnOK C (n + 1) 64 (mkF s64 G64) := by
  refine fn_of hC (sp := sp64) (lp := lp64) trivial (by kernel_rfl) [] (by kernel_rfl) rfl (fun k hk => by cases hk) fun ds r h => ?_
  unfold G64 at h
  split at h
  · rename_i a b c
    rw [← h]
    refine (congrArg T.run (t64 a b c)).trans ?_
    simp only [run_ite, run_leaf, within]
    split <;> rename_i hc
    · have : b.I ≤ a.I := of_decide_eq_true hc
      simp [this]
    · have : ¬ b.I ≤ a.I := fun h => hc (decide_eq_true h)
      simp [this]
  · cases h
theorem ok46 (n : Nat) : FnOK C (n + 1) 46 (mkF s46 G46) := by
  refine fn_of hC (sp := sp46) (lp := lp46) trivial (by kernel_rfl) [] (by kernel_rfl) rfl (fun k hk => by cases hk) fun ds r h => ?_
  unfold G46 at h
  split at h
  · rename_i a b c
    rw [← h]
    refine (congrArg T.run (t46 a b c)).trans ?_
    simp only [run_ite, run_leaf, within]
    split <;> rename_i hc
    · have : b.I ≤ a.I := of_decide_eq_true hc
      simp [this]
    · have : ¬ b.I ≤ a.I := fun h => hc (decide_eq_true h)
      simp [this]
  · cases h
end Go.Proofs.Ytgoedfonmocafaa
namespace Go.Proofs.Ytgoedfonmocafaa
open Go.Lite
def s55 : Sig := ⟨[.k (.int .i64), .k (.int .i64), .k (.int .i64)], [(.k .bool, [])]⟩
def s88 : Sig := ⟨[.k (.int .i64), .k (.int .i64), .k (.int .i64)], [(.k .bool, [])]⟩
def s97 : Sig := ⟨[.agg [.k (.int .i64), .k (.int .i64), .k (.int .i64), .k (.int .i64), .k (.int .i64)]], [(.k .bool, [])]⟩
def s89 : Sig := ⟨[.agg [.k (.int .i64), .k (.int .i64), .k (.int .i64), .k (.int .i64), .k (.int .i64)]], [(.k .bool, [])]⟩
def s51 : Sig := ⟨[.agg [.k (.ro [.int .i64, .int .i64, .int .i64, .int .i64, .int .i64]), .k (.ro [.int .i64, .int .i64]), .k (.ro [.int .i64, .int .i64, .int .i64])]], [(.k (.int .i64), [])]⟩
def l51_5 : LSig := mkLS [1, 3, 28, 29, 30] [(124, [(1, .ptr 0 3 0 0), (3, .k (.int .i64)), (28, .k (.ro [.int .i64, .int .i64, .int .i64, .int .i64, .int .i64])), (29, .k (.int .i64)), (30, .k (.int .i64))], [.box [.k (.ro [.int .i64, .int .i64, .int .i64, .int .i64, .int .i64]), .k (.ro [.int .i64, .int .i64]), .k (.ro [.int .i64, .int .i64, .int .i64])]])] [(.ret, [2], [(124, [(2, .k (.int .i64))], [])]), (.exit 0, [1, 3], [(124, [(1, .ptr 0 3 0 0), (3, .k (.int .i64))], [.box [.k (.ro [.int .i64, .int .i64, .int .i64, .int .i64, .int .i64]), .k (.ro [.int .i64, .int .i64]), .k (.ro [.int .i64, .int .i64, .int .i64])]])])]
def l51_14 : LSig := mkLS [1, 3, 45, 46, 47] [(124, [(1, .ptr 0 3 0 0), (3, .k (.int .i64)), (45, .k (.ro [.int .i64, .int .i64])), (46, .k (.int .i64)), (47, .k (.int .i64))], [.box [.k (.ro [.int .i64, .int .i64, .int .i64, .int .i64, .int .i64]), .k (.ro [.int .i64, .int .i64]), .k (.ro [.int .i64, .int .i64, .int .i64])]])] [(.ret, [2], [(124, [(2, .k (.int .i64))], [])]), (.exit 2, [1, 3], [(124, [(1, .ptr 0 3 0 0), (3, .k (.int .i64))], [.box [.k (.ro [.int .i64, .int .i64, .int .i64, .int .i64, .int .i64]), .k (.ro [.int .i64, .int .i64]), .k (.ro [.int .i64, .int .i64, .int .i64])]])])]
def l51_20 : LSig := mkLS [1, 3, 81, 82, 83] [(124, [(1, .ptr 0 3 0 0), (3, .k (.int .i64)), (81, .k (.ro [.int .i64, .int .i64, .int .i64])), (82, .k (.int .i64)), (83, .k (.int .i64))], [.box [.k (.ro [.int .i64, .int .i64, .int .i64, .int .i64, .int .i64]), .k (.ro [.int .i64, .int .i64]), .k (.ro [.int .i64, .int .i64, .int .i64])]])] [(.ret, [2], [(124, [(2, .k (.int .i64))], [])]), (.exit 4, [], [(124, [], [])])]
def s19 : Sig := ⟨[.agg [.k (.ro [.int .i64, .int .i64, .int .i64, .int .i64, .int .i64]), .k (.ro [.int .i64, .int .i64]), .k (.ro [.int .i64, .int .i64, .int .i64])]], [(.k (.int .i64), [])]⟩
def l19_3 : LSig := mkLS [1, 3, 4] [(21, [(1, .ptr 0 3 0 0), (3, .k (.int .i64)), (4, .k (.int .i64))], [.box [.k (.ro [.int .i64, .int .i64, .int .i64, .int .i64, .int .i64]), .k (.ro [.int .i64, .int .i64]), .k (.ro [.int .i64, .int .i64, .int .i64])]])] [(.exit 0, [3], [(21, [(3, .k (.int .i64))], [])])]
def s39 : Sig := ⟨[.agg [.k (.ro [.int .i64, .int .i64, .int .i64, .int .i64, .int .i64]), .k (.ro [.int .i64, .int .i64]), .k (.ro [.int .i64, .int .i64, .int .i64])]], [(.k .bool, [])]⟩
def l39_4 : LSig := mkLS [1, 3] [(130, [(1, .ptr 0 3 0 0), (3, .k (.int .i64))], [.box [.k (.ro [.int .i64, .int .i64, .int .i64, .int .i64, .int .i64]), .k (.ro [.int .i64, .int .i64]), .k (.ro [.int .i64, .int .i64, .int .i64])]])] [(.ret, [2], [(130, [(2, .k .bool)], [])]), (.exit 0, [1], [(130, [(1, .ptr 0 3 0 0)], [.box [.k (.ro [.int .i64, .int .i64, .int .i64, .int .i64, .int .i64]), .k (.ro [.int .i64, .int .i64]), .k (.ro [.int .i64, .int .i64, .int .i64])]])])]
def l39_10 : LSig := mkLS [1, 4, 5] [(130, [(1, .ptr 0 3 0 0), (4, .k (.int .i64)), (5, .k (.int .i64))], [.box [.k (.ro [.int .i64, .int .i64, .int .i64, .int .i64, .int .i64]), .k (.ro [.int .i64, .int .i64]), .k (.ro [.int .i64, .int .i64, .int .i64])]])] [(.ret, [2], [(130, [(2, .k .bool)], [])]), (.exit 2, [1, 4], [(130, [(1, .ptr 0 3 0 0), (4, .k (.int .i64))], [.box [.k (.ro [.int .i64, .int .i64, .int .i64, .int .i64, .int .i64]), .k (.ro [.int .i64, .int .i64]), .k (.ro [.int .i64, .int .i64, .int .i64])]])])]
def l39_16 : LSig := mkLS [1, 4, 7] [(130, [(1, .ptr 0 3 0 0), (4, .k (.int .i64)), (7, .k (.int .i64))], [.box [.k (.ro [.int .i64, .int .i64, .int .i64, .int .i64, .int .i64]), .k (.ro [.int .i64, .int .i64]), .k (.ro [.int .i64, .int .i64, .int .i64])]])] [(.ret, [2], [(130, [(2, .k .bool)], [])]), (.exit 4, [4], [(130, [(4, .k (.int .i64))], [])])]
end Go.Proofs.Ytgoedfonmocafaa
namespace Go.Proofs.Ytgoedfonmocafaa
open Go.Lite
noncomputable section
def pieceP (a b c d e : Int) : Bool := within a 1 5000 && within b (-1) 1 && within d 15 300 && within e 1 9 && (if b = 0 then decide (c = 0) else within c 5 2000)
def pieceAt (l : List (List D)) (k : Nat) : Bool := pieceP (ix (l.getD k []) 0) (ix (l.getD k []) 1) (ix (l.getD k []) 2) (ix (l.getD k []) 3) (ix (l.getD k []) 4)
def lenFrom (l : List (List D)) : Nat → Nat → Int
  | _, 0 => 0
  | i, k + 1 => ix (l.getD i []) 0 + lenFrom l (i + 1) k
def lenR (l : List (List D)) : Int := lenFrom l 0 l.length
def riseAt (l : List (List D)) (k : Nat) : Bool := decide (k = 0) || decide (ix (l.getD (k - 1) []) 0 < ix (l.getD k []) 0)
def crestAt (n : Int) (l : List (List D)) (k : Nat) : Bool := within (ix (l.getD k []) 0) 0 n && within (ix (l.getD k []) 1) 1 3 && riseAt l k
def juncAt (n : Int) (l : List (List D)) (k : Nat) : Bool := within (ix (l.getD k []) 0) 0 n && within (ix (l.getD k []) 1) 2 6 && within (ix (l.getD k []) 2) 1 (ix (l.getD k []) 1) && riseAt l k
def sizesOk (p c j : List (List D)) : Bool := within p.length 1 2000 && decide (c.length ≤ 1000) && decide (j.length ≤ 200)
def roadOk (p c j : List (List D)) : Bool := sizesOk p c j && allFrom (pieceAt p) 0 p.length && decide (lenR p ≤ 100000) && allFrom (crestAt (lenR p) c) 0 c.length && allFrom (juncAt (lenR p) j) 0 j.length
def G55 (ds : List D) : T (List D) := match ds with
  | [a, b, c] => .leaf [.b (within a.I b.I c.I)]
  | _ => .fail
def G88 (ds : List D) : T (List D) := match ds with
  | [a, b, c] => .leaf [.b (within a.I b.I c.I)]
  | _ => .fail
def G97 (ds : List D) : T (List D) := match ds with
  | [a, b, c, d, e] => .leaf [.b (pieceP a.I b.I c.I d.I e.I)]
  | _ => .fail
def G89 (ds : List D) : T (List D) := match ds with
  | [a, b, c, d, e] => .leaf [.b (pieceP a.I b.I c.I d.I e.I)]
  | _ => .fail
def G51 (ds : List D) : T (List D) := match ds with
  | [p, c, j] => .ite (roadOk p.L c.L j.L) (.leaf [.i 0]) (.leaf [.i 2])
  | _ => .fail
def G51_5 (ds : List D) : T (Ex × List D) := match ds with
  | [n, q, m, i, p, c, j] => .need (yes (q.L = p.L ∧ m.I = p.L.length ∧ 0 ≤ i.I ∧ i.I ≤ m.I ∧ m.I ≤ 2000 ∧ 0 ≤ n.I ∧ n.I ≤ 5000 * i.I))
      (.ite (allFrom (pieceAt p.L) i.I.toNat (p.L.length - i.I.toNat)) (.leaf (.exit 0, [.i (n.I + lenFrom p.L i.I.toNat (p.L.length - i.I.toNat)), .l p.L, .l c.L, .l j.L])) (.leaf (.ret, [.i 2])))
  | _ => .fail
def G51_14 (ds : List D) : T (Ex × List D) := match ds with
  | [n, q, m, i, p, c, j] => .need (yes (q.L = c.L ∧ m.I = c.L.length ∧ 0 ≤ i.I ∧ i.I ≤ m.I ∧ m.I ≤ 1000))
      (.ite (allFrom (crestAt n.I c.L) i.I.toNat (c.L.length - i.I.toNat)) (.leaf (.exit 2, [.i n.I, .l p.L, .l c.L, .l j.L])) (.leaf (.ret, [.i 2])))
  | _ => .fail
def G51_20 (ds : List D) : T (Ex × List D) := match ds with
  | [n, q, m, i, _, _, j] => .need (yes (q.L = j.L ∧ m.I = j.L.length ∧ 0 ≤ i.I ∧ i.I ≤ m.I ∧ m.I ≤ 200))
      (.ite (allFrom (juncAt n.I j.L) i.I.toNat (j.L.length - i.I.toNat)) (.leaf (.exit 4, [])) (.leaf (.ret, [.i 2])))
  | _ => .fail
def G19 (ds : List D) : T (List D) := match ds with
  | [p, _, _] => .need (yes (p.L.length ≤ 2000 ∧ allFrom (pieceAt p.L) 0 p.L.length = true)) (.leaf [.i (lenR p.L)])
  | _ => .fail
def G19_3 (ds : List D) : T (Ex × List D) := match ds with
  | [n, i, p, _, _] => .need (yes (p.L.length ≤ 2000 ∧ allFrom (pieceAt p.L) 0 p.L.length = true ∧ 0 ≤ i.I ∧ i.I ≤ p.L.length ∧ 0 ≤ n.I ∧ n.I ≤ 5000 * i.I))
      (.leaf (.exit 0, [.i (n.I + lenFrom p.L i.I.toNat (p.L.length - i.I.toNat))]))
  | _ => .fail
def G39 (ds : List D) : T (List D) := match ds with
  | [p, c, j] => .leaf [.b (roadOk p.L c.L j.L)]
  | _ => .fail
def G39_4 (ds : List D) : T (Ex × List D) := match ds with
  | [i, p, c, j] => .need (yes (p.L.length ≤ 2000 ∧ 0 ≤ i.I ∧ i.I ≤ p.L.length))
      (.ite (allFrom (pieceAt p.L) i.I.toNat (p.L.length - i.I.toNat)) (.leaf (.exit 0, [.l p.L, .l c.L, .l j.L])) (.leaf (.ret, [.b false])))
  | _ => .fail
def G39_10 (ds : List D) : T (Ex × List D) := match ds with
  | [n, i, p, c, j] => .need (yes (c.L.length ≤ 1000 ∧ 0 ≤ i.I ∧ i.I ≤ c.L.length))
      (.ite (allFrom (crestAt n.I c.L) i.I.toNat (c.L.length - i.I.toNat)) (.leaf (.exit 2, [.i n.I, .l p.L, .l c.L, .l j.L])) (.leaf (.ret, [.b false])))
  | _ => .fail
def G39_16 (ds : List D) : T (Ex × List D) := match ds with
  | [n, i, _, _, j] => .need (yes (j.L.length ≤ 200 ∧ 0 ≤ i.I ∧ i.I ≤ j.L.length))
      (.ite (allFrom (juncAt n.I j.L) i.I.toNat (j.L.length - i.I.toNat)) (.leaf (.exit 4, [.i n.I])) (.leaf (.ret, [.b false])))
  | _ => .fail
end
end Go.Proofs.Ytgoedfonmocafaa
namespace Go.Proofs.Ytgoedfonmocafaa
open Go.Lite
noncomputable def sp55 : SpL := []
noncomputable def lp55 : LpL := []
noncomputable def sw55 : SwL := []
noncomputable def tab55 : Tab := mkTab sp55 lp55 sw55
noncomputable def sp88 : SpL := []
noncomputable def lp88 : LpL := []
noncomputable def sw88 : SwL := []
noncomputable def tab88 : Tab := mkTab sp88 lp88 sw88
noncomputable def sp97 : SpL := [(55, mkF s55 G55)]
noncomputable def lp97 : LpL := []
noncomputable def sw97 : SwL := []
noncomputable def tab97 : Tab := mkTab sp97 lp97 sw97
noncomputable def sp89 : SpL := [(88, mkF s88 G88)]
noncomputable def lp89 : LpL := []
noncomputable def sw89 : SwL := []
noncomputable def tab89 : Tab := mkTab sp89 lp89 sw89
noncomputable def sp51 : SpL := [(55, mkF s55 G55), (97, mkF s97 G97)]
noncomputable def lp51 : LpL := [(5, mkL l51_5 G51_5), (14, mkL l51_14 G51_14), (20, mkL l51_20 G51_20)]
noncomputable def sw51 : SwL := []
noncomputable def tab51 : Tab := mkTab sp51 lp51 sw51
noncomputable def sp19 : SpL := []
noncomputable def lp19 : LpL := [(3, mkL l19_3 G19_3)]
noncomputable def sw19 : SwL := []
noncomputable def tab19 : Tab := mkTab sp19 lp19 sw19
noncomputable def sp39 : SpL := [(88, mkF s88 G88), (89, mkF s89 G89), (19, mkF s19 G19)]
noncomputable def lp39 : LpL := [(4, mkL l39_4 G39_4), (10, mkL l39_10 G39_10), (16, mkL l39_16 G39_16)]
noncomputable def sw39 : SwL := []
noncomputable def tab39 : Tab := mkTab sp39 lp39 sw39
end Go.Proofs.Ytgoedfonmocafaa
namespace Go.Proofs.Ytgoedfonmocafaa
open Go.Lite
set_option linter.unusedVariables false
set_option maxRecDepth 100000
theorem t55 (a b c : D) : fnT C tab55 55 s55 [a, b, c] =
  T.ite (decide (a.I ≥ b.I)) (T.leaf [D.b (decide (a.I ≤ c.I))]) (T.leaf [D.b false]) := by kernel_rfl
theorem t88 (a b c : D) : fnT C tab88 88 s88 [a, b, c] =
  T.ite (decide (a.I ≥ b.I)) (T.leaf [D.b (decide (a.I ≤ c.I))]) (T.leaf [D.b false]) := by kernel_rfl
theorem t97 (a b c d e : D) : fnT C tab97 97 s97 [a, b, c, d, e] =
  T.ite (b.I == (0 : Int)) (T.ite (c.I != (0 : Int)) (T.leaf [D.b false]) (T.ite (b.I != (0 : Int)) (T.ite (!within c.I (5 : Int) (2000 : Int)) (T.leaf [D.b false]) (T.ite (within a.I (1 : Int) (5000 : Int)) (T.ite (within b.I (-1 : Int) (1 : Int)) (T.ite (within d.I (15 : Int) (300 : Int)) (T.leaf [D.b (within e.I (1 : Int) (9 : Int))]) (T.leaf [D.b false])) (T.leaf [D.b false])) (T.leaf [D.b false]))) (T.ite (within a.I (1 : Int) (5000 : Int)) (T.ite (within b.I (-1 : Int) (1 : Int)) (T.ite (within d.I (15 : Int) (300 : Int)) (T.leaf [D.b (within e.I (1 : Int) (9 : Int))]) (T.leaf [D.b false])) (T.leaf [D.b false])) (T.leaf [D.b false])))) (T.ite (b.I != (0 : Int)) (T.ite (!within c.I (5 : Int) (2000 : Int)) (T.leaf [D.b false]) (T.ite (within a.I (1 : Int) (5000 : Int)) (T.ite (within b.I (-1 : Int) (1 : Int)) (T.ite (within d.I (15 : Int) (300 : Int)) (T.leaf [D.b (within e.I (1 : Int) (9 : Int))]) (T.leaf [D.b false])) (T.leaf [D.b false])) (T.leaf [D.b false]))) (T.ite (within a.I (1 : Int) (5000 : Int)) (T.ite (within b.I (-1 : Int) (1 : Int)) (T.ite (within d.I (15 : Int) (300 : Int)) (T.leaf [D.b (within e.I (1 : Int) (9 : Int))]) (T.leaf [D.b false])) (T.leaf [D.b false])) (T.leaf [D.b false]))) := by kernel_rfl
theorem t89 (a b c d e : D) : fnT C tab89 89 s89 [a, b, c, d, e] =
  T.ite (!within a.I (1 : Int) (5000 : Int)) (T.leaf [D.b false]) (T.ite (!within b.I (-1 : Int) (1 : Int)) (T.leaf [D.b false]) (T.ite (!within d.I (15 : Int) (300 : Int)) (T.leaf [D.b false]) (T.ite (!within e.I (1 : Int) (9 : Int)) (T.leaf [D.b false]) (T.ite (b.I == (0 : Int)) (T.leaf [D.b (c.I == (0 : Int))]) (T.leaf [D.b (within c.I (5 : Int) (2000 : Int))]))))) := by kernel_rfl
theorem t51 (a b c : D) : fnT C tab51 51 s51 [a, b, c] =
  T.ite (!within (a.L.length : Int) (1 : Int) (2000 : Int)) (T.leaf [D.i 2]) (T.ite (decide ((b.L.length : Int) > (1000 : Int))) (T.leaf [D.i 2]) (T.ite (decide ((c.L.length : Int) > (200 : Int))) (T.leaf [D.i 2]) (T.need (yes (a.L = a.L ∧ (a.L.length : Int) = (a.L.length : Int) ∧ (0 : Int) ≤ (0 : Int) ∧ (0 : Int) ≤ (a.L.length : Int) ∧ (a.L.length : Int) ≤ (2000 : Int) ∧ (0 : Int) ≤ (0 : Int) ∧ (0 : Int) ≤ (5000 : Int) * (0 : Int))) (T.ite (allFrom (pieceAt a.L) (Int.toNat (0 : Int)) (a.L.length - Int.toNat (0 : Int))) (T.ite (decide ((0 : Int) + lenFrom a.L (Int.toNat (0 : Int)) (a.L.length - Int.toNat (0 : Int)) > (100000 : Int))) (T.leaf [D.i 2]) (T.need (yes (b.L = b.L ∧ (b.L.length : Int) = (b.L.length : Int) ∧ (0 : Int) ≤ (0 : Int) ∧ (0 : Int) ≤ (b.L.length : Int) ∧ (b.L.length : Int) ≤ (1000 : Int))) (T.ite (allFrom (crestAt ((0 : Int) + lenFrom a.L (Int.toNat (0 : Int)) (a.L.length - Int.toNat (0 : Int))) b.L) (Int.toNat (0 : Int)) (b.L.length - Int.toNat (0 : Int))) (T.need (yes (c.L = c.L ∧ (c.L.length : Int) = (c.L.length : Int) ∧ (0 : Int) ≤ (0 : Int) ∧ (0 : Int) ≤ (c.L.length : Int) ∧ (c.L.length : Int) ≤ (200 : Int))) (T.ite (allFrom (juncAt ((0 : Int) + lenFrom a.L (Int.toNat (0 : Int)) (a.L.length - Int.toNat (0 : Int))) c.L) (Int.toNat (0 : Int)) (c.L.length - Int.toNat (0 : Int))) (T.leaf [D.i 0]) (T.leaf [D.i 2]))) (T.leaf [D.i 2])))) (T.leaf [D.i 2]))))) := by kernel_rfl
theorem t51_5 (a b c d e f g : D) : roundT C tab51 51 (loopOf C.P 51 5) l51_5 [a, b, c, d, e, f, g] =
  T.ite (decide (d.I < c.I)) (T.need (decide ((0 : Int) ≤ d.I ∧ d.I < (b.L.length : Int))) (T.ite (!pieceP (D.I (List.getD (List.getD b.L d.I.toNat []) 0 default)) (D.I (List.getD (List.getD b.L d.I.toNat []) (0 + 1) default)) (D.I (List.getD (List.getD b.L d.I.toNat []) (0 + 1 + 1) default)) (D.I (List.getD (List.getD b.L d.I.toNat []) (0 + 1 + 1 + 1) default)) (D.I (List.getD (List.getD b.L d.I.toNat []) (0 + 1 + 1 + 1 + 1) default))) (T.leaf (Rd.out Ex.ret [D.i 2])) (T.leaf (Rd.again [D.i (IntKind.wrap IntKind.i64 (a.I + D.I (List.getD (List.getD b.L d.I.toNat []) 0 default))), D.l b.L, D.i c.I, D.i (IntKind.wrap IntKind.i64 (d.I + (1 : Int))), D.l e.L, D.l f.L, D.l g.L])))) (T.leaf (Rd.out (Ex.exit 0) [D.i a.I, D.l e.L, D.l f.L, D.l g.L])) := by kernel_rfl
theorem t51_14 (a b c d e f g : D) : roundT C tab51 51 (loopOf C.P 51 14) l51_14 [a, b, c, d, e, f, g] =
  T.ite (decide (d.I < c.I)) (T.need (decide ((0 : Int) ≤ d.I ∧ d.I < (b.L.length : Int))) (T.ite (!within (D.I (List.getD (List.getD b.L d.I.toNat []) 0 default)) (0 : Int) a.I) (T.leaf (Rd.out Ex.ret [D.i 2])) (T.ite (!within (D.I (List.getD (List.getD b.L d.I.toNat []) (0 + 1) default)) (1 : Int) (3 : Int)) (T.leaf (Rd.out Ex.ret [D.i 2])) (T.ite (decide (d.I > (0 : Int))) (T.need (decide ((0 : Int) ≤ IntKind.wrap IntKind.i64 (d.I - (1 : Int)) ∧ IntKind.wrap IntKind.i64 (d.I - (1 : Int)) < (f.L.length : Int))) (T.ite (decide (D.I (List.getD (List.getD b.L d.I.toNat []) 0 default) ≤ D.I (List.getD (List.getD f.L (Int.toNat (IntKind.wrap IntKind.i64 (d.I - (1 : Int)))) []) 0 default))) (T.leaf (Rd.out Ex.ret [D.i 2])) (T.leaf (Rd.again [D.i a.I, D.l b.L, D.i c.I, D.i (IntKind.wrap IntKind.i64 (d.I + (1 : Int))), D.l e.L, D.l f.L, D.l g.L])))) (T.leaf (Rd.again [D.i a.I, D.l b.L, D.i c.I, D.i (IntKind.wrap IntKind.i64 (d.I + (1 : Int))), D.l e.L, D.l f.L, D.l g.L])))))) (T.leaf (Rd.out (Ex.exit 2) [D.i a.I, D.l e.L, D.l f.L, D.l g.L])) := by kernel_rfl
theorem t51_20 (a b c d e f g : D) : roundT C tab51 51 (loopOf C.P 51 20) l51_20 [a, b, c, d, e, f, g] =
  T.ite (decide (d.I < c.I)) (T.need (decide ((0 : Int) ≤ d.I ∧ d.I < (b.L.length : Int))) (T.ite (!within (D.I (List.getD (List.getD b.L d.I.toNat []) 0 default)) (0 : Int) a.I) (T.leaf (Rd.out Ex.ret [D.i 2])) (T.ite (!within (D.I (List.getD (List.getD b.L d.I.toNat []) (0 + 1) default)) (2 : Int) (6 : Int)) (T.leaf (Rd.out Ex.ret [D.i 2])) (T.ite (!within (D.I (List.getD (List.getD b.L d.I.toNat []) (0 + 1 + 1) default)) (1 : Int) (D.I (List.getD (List.getD b.L d.I.toNat []) (0 + 1) default))) (T.leaf (Rd.out Ex.ret [D.i 2])) (T.ite (decide (d.I > (0 : Int))) (T.need (decide ((0 : Int) ≤ IntKind.wrap IntKind.i64 (d.I - (1 : Int)) ∧ IntKind.wrap IntKind.i64 (d.I - (1 : Int)) < (g.L.length : Int))) (T.ite (decide (D.I (List.getD (List.getD b.L d.I.toNat []) 0 default) ≤ D.I (List.getD (List.getD g.L (Int.toNat (IntKind.wrap IntKind.i64 (d.I - (1 : Int)))) []) 0 default))) (T.leaf (Rd.out Ex.ret [D.i 2])) (T.leaf (Rd.again [D.i a.I, D.l b.L, D.i c.I, D.i (IntKind.wrap IntKind.i64 (d.I + (1 : Int))), D.l e.L, D.l f.L, D.l g.L])))) (T.leaf (Rd.again [D.i a.I, D.l b.L, D.i c.I, D.i (IntKind.wrap IntKind.i64 (d.I + (1 : Int))), D.l e.L, D.l f.L, D.l g.L]))))))) (T.leaf (Rd.out (Ex.exit 4) [])) := by kernel_rfl
theorem t19 (a b c : D) : fnT C tab19 19 s19 [a, b, c] =
  T.need (yes (a.L.length ≤ 2000 ∧ allFrom (pieceAt a.L) 0 a.L.length = true ∧ (0 : Int) ≤ (0 : Int) ∧ (0 : Int) ≤ (a.L.length : Int) ∧ (0 : Int) ≤ (0 : Int) ∧ (0 : Int) ≤ (5000 : Int) * (0 : Int))) (T.leaf [D.i ((0 : Int) + lenFrom a.L (Int.toNat (0 : Int)) (a.L.length - Int.toNat (0 : Int)))]) := by kernel_rfl
theorem t19_3 (a b c d e : D) : roundT C tab19 19 (loopOf C.P 19 3) l19_3 [a, b, c, d, e] =
  T.ite (decide (b.I < (c.L.length : Int))) (T.need (decide ((0 : Int) ≤ b.I ∧ b.I < (c.L.length : Int))) (T.leaf (Rd.again [D.i (IntKind.wrap IntKind.i64 (a.I + D.I (List.getD (List.getD c.L b.I.toNat []) 0 default))), D.i (IntKind.wrap IntKind.i64 (b.I + (1 : Int))), D.l c.L, D.l d.L, D.l e.L]))) (T.leaf (Rd.out (Ex.exit 0) [D.i a.I])) := by kernel_rfl
theorem t39 (a b c : D) : fnT C tab39 39 s39 [a, b, c] =
  T.ite (!within (a.L.length : Int) (1 : Int) (2000 : Int)) (T.leaf [D.b false]) (T.ite (decide ((b.L.length : Int) > (1000 : Int))) (T.leaf [D.b false]) (T.ite (decide ((c.L.length : Int) > (200 : Int))) (T.leaf [D.b false]) (T.need (yes (a.L.length ≤ 2000 ∧ (0 : Int) ≤ (0 : Int) ∧ (0 : Int) ≤ (a.L.length : Int))) (T.ite (allFrom (pieceAt a.L) (Int.toNat (0 : Int)) (a.L.length - Int.toNat (0 : Int))) (T.need (yes (a.L.length ≤ 2000 ∧ allFrom (pieceAt a.L) 0 a.L.length = true)) (T.need (yes (b.L.length ≤ 1000 ∧ (0 : Int) ≤ (0 : Int) ∧ (0 : Int) ≤ (b.L.length : Int))) (T.ite (allFrom (crestAt (lenR a.L) b.L) (Int.toNat (0 : Int)) (b.L.length - Int.toNat (0 : Int))) (T.need (yes (c.L.length ≤ 200 ∧ (0 : Int) ≤ (0 : Int) ∧ (0 : Int) ≤ (c.L.length : Int))) (T.ite (allFrom (juncAt (lenR a.L) c.L) (Int.toNat (0 : Int)) (c.L.length - Int.toNat (0 : Int))) (T.leaf [D.b (decide (lenR a.L ≤ (100000 : Int)))]) (T.leaf [D.b false]))) (T.leaf [D.b false])))) (T.leaf [D.b false]))))) := by kernel_rfl
theorem t39_4 (a b c d : D) : roundT C tab39 39 (loopOf C.P 39 4) l39_4 [a, b, c, d] =
  T.ite (decide (a.I < (b.L.length : Int))) (T.need (decide ((0 : Int) ≤ a.I ∧ a.I < (b.L.length : Int))) (T.ite (!pieceP (D.I (List.getD (List.getD b.L a.I.toNat []) 0 default)) (D.I (List.getD (List.getD b.L a.I.toNat []) (0 + 1) default)) (D.I (List.getD (List.getD b.L a.I.toNat []) (0 + 1 + 1) default)) (D.I (List.getD (List.getD b.L a.I.toNat []) (0 + 1 + 1 + 1) default)) (D.I (List.getD (List.getD b.L a.I.toNat []) (0 + 1 + 1 + 1 + 1) default))) (T.leaf (Rd.out Ex.ret [D.b false])) (T.leaf (Rd.again [D.i (IntKind.wrap IntKind.i64 (a.I + (1 : Int))), D.l b.L, D.l c.L, D.l d.L])))) (T.leaf (Rd.out (Ex.exit 0) [D.l b.L, D.l c.L, D.l d.L])) := by kernel_rfl
theorem t39_10 (a b c d e : D) : roundT C tab39 39 (loopOf C.P 39 10) l39_10 [a, b, c, d, e] =
  T.ite (decide (b.I < (d.L.length : Int))) (T.need (decide ((0 : Int) ≤ b.I ∧ b.I < (d.L.length : Int))) (T.ite (!within (D.I (List.getD (List.getD d.L b.I.toNat []) 0 default)) (0 : Int) a.I) (T.leaf (Rd.out Ex.ret [D.b false])) (T.ite (!within (D.I (List.getD (List.getD d.L b.I.toNat []) (0 + 1) default)) (1 : Int) (3 : Int)) (T.leaf (Rd.out Ex.ret [D.b false])) (T.ite (decide (b.I > (0 : Int))) (T.need (decide ((0 : Int) ≤ IntKind.wrap IntKind.i64 (b.I - (1 : Int)) ∧ IntKind.wrap IntKind.i64 (b.I - (1 : Int)) < (d.L.length : Int))) (T.ite (decide (D.I (List.getD (List.getD d.L b.I.toNat []) 0 default) ≤ D.I (List.getD (List.getD d.L (Int.toNat (IntKind.wrap IntKind.i64 (b.I - (1 : Int)))) []) 0 default))) (T.leaf (Rd.out Ex.ret [D.b false])) (T.leaf (Rd.again [D.i a.I, D.i (IntKind.wrap IntKind.i64 (b.I + (1 : Int))), D.l c.L, D.l d.L, D.l e.L])))) (T.leaf (Rd.again [D.i a.I, D.i (IntKind.wrap IntKind.i64 (b.I + (1 : Int))), D.l c.L, D.l d.L, D.l e.L])))))) (T.leaf (Rd.out (Ex.exit 2) [D.i a.I, D.l c.L, D.l d.L, D.l e.L])) := by kernel_rfl
theorem t39_16 (a b c d e : D) : roundT C tab39 39 (loopOf C.P 39 16) l39_16 [a, b, c, d, e] =
  T.ite (decide (b.I < (e.L.length : Int))) (T.need (decide ((0 : Int) ≤ b.I ∧ b.I < (e.L.length : Int))) (T.ite (!within (D.I (List.getD (List.getD e.L b.I.toNat []) 0 default)) (0 : Int) a.I) (T.leaf (Rd.out Ex.ret [D.b false])) (T.ite (!within (D.I (List.getD (List.getD e.L b.I.toNat []) (0 + 1) default)) (2 : Int) (6 : Int)) (T.leaf (Rd.out Ex.ret [D.b false])) (T.ite (!within (D.I (List.getD (List.getD e.L b.I.toNat []) (0 + 1 + 1) default)) (1 : Int) (D.I (List.getD (List.getD e.L b.I.toNat []) (0 + 1) default))) (T.leaf (Rd.out Ex.ret [D.b false])) (T.ite (decide (b.I > (0 : Int))) (T.need (decide ((0 : Int) ≤ IntKind.wrap IntKind.i64 (b.I - (1 : Int)) ∧ IntKind.wrap IntKind.i64 (b.I - (1 : Int)) < (e.L.length : Int))) (T.ite (decide (D.I (List.getD (List.getD e.L b.I.toNat []) 0 default) ≤ D.I (List.getD (List.getD e.L (Int.toNat (IntKind.wrap IntKind.i64 (b.I - (1 : Int)))) []) 0 default))) (T.leaf (Rd.out Ex.ret [D.b false])) (T.leaf (Rd.again [D.i a.I, D.i (IntKind.wrap IntKind.i64 (b.I + (1 : Int))), D.l c.L, D.l d.L, D.l e.L])))) (T.leaf (Rd.again [D.i a.I, D.i (IntKind.wrap IntKind.i64 (b.I + (1 : Int))), D.l c.L, D.l d.L, D.l e.L]))))))) (T.leaf (Rd.out (Ex.exit 4) [D.i a.I])) := by kernel_rfl
end Go.Proofs.Ytgoedfonmocafaa
namespace Go.Proofs.Ytgoedfonmocafaa
open Go.Lite
theorem ok55 (n : Nat) : FnOK C (n + 1) 55 (mkF s55 G55) := by
  refine fn_of hC (sp := sp55) (lp := lp55) trivial (by kernel_rfl) [] (by kernel_rfl) rfl (fun k hk => by cases hk) fun ds r h => ?_
  unfold G55 at h
  split at h
  · rename_i a b c
    rw [← h]
    refine (congrArg T.run (t55 a b c)).trans ?_
    simp only [run_ite, run_leaf, within]
    split <;> rename_i hc
    · have : b.I ≤ a.I := of_decide_eq_true hc
      simp [this]
    · have : ¬ b.I ≤ a.I := fun h => hc (decide_eq_true h)
      simp [this]
  · cases h
theorem ok88 (n : Nat) : FnOK C (n + 1) 88 (mkF s88 G88) := by
  refine fn_of hC (sp := sp88) (lp := lp88) trivial (by kernel_rfl) [] (by kernel_rfl) rfl (fun k hk => by cases hk) fun ds r h => ?_
  unfold G88 at h
  split at h
  · rename_i a b c
    rw [← h]
    refine (congrArg T.run (t88 a b c)).trans ?_
    simp only [run_ite, run_leaf, within]
    split <;> rename_i hc
    · have : b.I ≤ a.I := of_decide_eq_true hc
      simp [this]
    · have : ¬ b.I ≤ a.I := fun h => hc (decide_eq_true h)
      simp [this]
  · cases h
theorem ok89 (n : Nat) : FnOK C (n + 2) 89 (mkF s89 G89) := by
  refine fn_of hC (sp := sp89) (lp := lp89) ⟨ok88 n, trivial⟩ (by kernel_rfl) [] (by kernel_rfl) rfl (fun k hk => by cases hk) fun ds r h => ?_
  unfold G89 at h
  split at h
  · rename_i a b c d e
    rw [← h]
    refine (congrArg T.run (t89 a b c d e)).trans ?_
    simp only [run_ite, run_leaf, pieceP]
    cases within a.I 1 5000 <;> cases within b.I (-1) 1 <;> cases within d.I 15 300 <;> cases within e.I 1 9 <;> simp
    by_cases h0 : b.I = 0 <;> simp [h0] <;> first | rfl | (by_cases h1 : c.I = 0 <;> simp [h1])
  · cases h
theorem ok97 (n : Nat) : FnOK C (n + 2) 97 (mkF s97 G97) := by
  refine fn_of hC (sp := sp97) (lp := lp97) ⟨ok55 n, trivial⟩ (by kernel_rfl) [] (by kernel_rfl) rfl (fun k hk => by cases hk) fun ds r h => ?_
  unfold G97 at h
  split at h
  · rename_i a b c d e
    rw [← h]
    refine (congrArg T.run (t97 a b c d e)).trans ?_
    simp only [run_ite, run_leaf, pieceP]
    cases within a.I 1 5000 <;> cases within b.I (-1) 1 <;> cases within d.I 15 300 <;> cases within e.I 1 9 <;> cases within c.I 5 2000 <;> by_cases h0 : b.I = 0 <;> by_cases h1 : c.I = 0 <;> simp [h0, h1]
  · cases h
theorem out_ok {G : List D → T (Ex × List D)} {μ : List D → Nat} {ds : List D} {r : Ex × List D} {X : Option Rd} (h : X = some (.out r.1 r.2)) : RdOK G μ ds r X := ⟨_, h, .inr rfl⟩
theorem again_ok {G : List D → T (Ex × List D)} {μ : List D → Nat} {ds ds' : List D} {r : Ex × List D} {X : Option Rd} (h : X = some (.again ds')) (h1 : (G ds').run = some r) (h2 : μ ds' < μ ds) : RdOK G μ ds r X := ⟨_, h, .inl ⟨_, rfl, h1, h2⟩⟩
theorem lenFrom_bound {l : List (List D)} : ∀ (k i : Nat), (∀ j, i ≤ j → j < i + k → pieceAt l j = true) → 0 ≤ lenFrom l i k ∧ lenFrom l i k ≤ 5000 * k
  | 0, _, _ => by simp [lenFrom]
  | k + 1, i, h => by
    have h1 := lenFrom_bound (l := l) k (i + 1) fun j a b => h j (by omega) (by omega)
    have h2 := h i (Nat.le_refl _) (by omega)
    simp only [pieceAt, pieceP, Bool.and_eq_true, Lite.within_iff] at h2
    obtain ⟨⟨⟨⟨h3, _⟩, _⟩, _⟩, _⟩ := h2
    simp only [lenFrom]
    omega
theorem ok19_3 (n : Nat) : LoopSim C (n + 1) 19 (loopOf C.P 19 3) (mkL l19_3 G19_3) := by
  refine loop_of hC (sp := sp19) (lp := lp19) trivial [] (by kernel_rfl) rfl (fun k hk => by cases hk) (by kernel_rfl) (fun ds => (((ds.getD 2 default).L.length : Int) - (ds.getD 1 default).I).toNat) fun ds r h => ?_
  unfold G19_3 at h
  split at h
  · rename_i m i p c j
    obtain ⟨hp, h⟩ := need_some h
    rw [yes_iff] at hp
    obtain ⟨h1, h2, h3, h4, h5, h6⟩ := hp
    refine ⟨by rw [fuelC]; simp; omega, ?_⟩
    rw [show roundT C (mkTab sp19 lp19) 19 (loopOf C.P 19 3) l19_3 [m, i, p, c, j] = _ from t19_3 m i p c j]
    obtain ⟨k, hk⟩ : ∃ k : Nat, i.I = k := ⟨i.I.toNat, by omega⟩
    rw [hk] at h h4 h6 ⊢
    simp only [run_leaf, Int.toNat_natCast] at h
    by_cases hlt : (k : Int) < p.L.length
    · have hb := lenFrom_bound (l := p.L) 1 k fun y _ hy => (allFrom_iff.1 h2) y (Nat.zero_le _) (by omega)
      simp only [lenFrom] at hb
      have w0 : IntKind.i64.wrap (m.I + ix (p.L.getD k []) 0) = m.I + ix (p.L.getD k []) 0 := wrap_id (by omega) (by omega)
      have w1 : IntKind.i64.wrap ((k : Int) + 1) = ((k + 1 : Nat) : Int) := wrap_succ (by omega)
      refine again_ok (ds' := [D.i (m.I + ix (p.L.getD k []) 0), D.i (k + 1 : Nat), D.l p.L, D.l c.L, D.l j.L]) ?_ ?_ ?_
      · simp only [run_ite, run_need, run_leaf, hlt, decide_true, if_true, Int.toNat_natCast, ix_def, w0, w1, show (0 : Int) ≤ (k : Int) from by omega, and_self]
      · refine (need_yes ⟨h1, h2, by simp only [I_i]; omega, by simp only [I_i, L_l]; omega, by simp only [I_i]; omega, by simp only [I_i]; omega⟩).trans ?_
        rw [← h, show p.L.length - k = (p.L.length - (k + 1)) + 1 by omega]
        simp only [run_leaf, I_i, L_l, Int.toNat_natCast, lenFrom, Int.add_assoc]
      · show ((p.L.length : Int) - ((k + 1 : Nat) : Int)).toNat < ((p.L.length : Int) - i.I).toNat
        omega
    · refine out_ok ?_
      rw [show p.L.length - k = 0 by omega] at h
      simp only [lenFrom, Int.add_zero, Option.some.injEq] at h
      simp only [run_ite, run_leaf, hlt, decide_false, Bool.false_eq_true, if_false, ← h]
  · cases h
theorem ok19 (n : Nat) : FnOK C (n + 2) 19 (mkF s19 G19) := by
  refine fn_of hC (sp := sp19) (lp := lp19) trivial (by kernel_rfl) [3] (by kernel_rfl) (by kernel_rfl) (fun k hk L hL => by simp at hk; subst hk; cases hL; exact ok19_3 n) fun ds r h => ?_
  unfold G19 at h
  split at h
  · rename_i p c j
    obtain ⟨hp, h⟩ := need_some h
    rw [yes_iff] at hp
    rw [← h]
    refine (congrArg T.run (t19 p c j)).trans ?_
    refine (need_yes ⟨hp.1, hp.2, by omega, by omega, by omega, by omega⟩).trans ?_
    simp only [run_leaf, lenR, Int.zero_add, Int.toNat_zero, Nat.sub_zero]
  · cases h
end Go.Proofs.Ytgoedfonmocafaa
namespace Go.Proofs.Ytgoedfonmocafaa
open Go.Lite
theorem ok39_4 (n : Nat) : LoopSim C (n + 3) 39 (loopOf C.P 39 4) (mkL l39_4 G39_4) := by
  refine loop_of hC (sp := sp39) (lp := lp39) ⟨ok88 (n + 1 + 1), ok89 (n + 1), ok19 (n + 1), trivial⟩ [] (by kernel_rfl) rfl (fun k hk => by cases hk) (by kernel_rfl) (fun ds => (((ds.getD 1 default).L.length : Int) - (ds.getD 0 default).I).toNat) fun ds r h => ?_
  unfold G39_4 at h
  split at h
  · rename_i i p c j
    obtain ⟨hp, h⟩ := need_some h
    rw [yes_iff] at hp
    obtain ⟨h1, h2, h3⟩ := hp
    refine ⟨by rw [fuelC]; simp; omega, ?_⟩
    rw [show roundT C (mkTab sp39 lp39) 39 (loopOf C.P 39 4) l39_4 [i, p, c, j] = _ from t39_4 i p c j]
    obtain ⟨k, hk⟩ : ∃ k : Nat, i.I = k := ⟨i.I.toNat, by omega⟩
    simp only [run_ite, run_need, run_leaf, hk, Int.toNat_natCast] at h h3 ⊢
    refine all_loop (p := pieceAt p.L) (i := k) (len := p.L.length) [D.i (k + 1 : Nat), D.l p.L, D.l c.L, D.l j.L] h ?_ ?_
    · simp only [pieceAt, ix_def, wrap_succ (show k < 9223372036854775807 by omega)]
      grind
    · intro hlt hp hh
      refine ⟨Eq.trans (need_yes (p := _) (t := _) ?_) hh, ?_⟩
      · simp only [I_i, L_l]
        exact ⟨h1, by omega, by omega⟩
      · show ((p.L.length : Int) - ((k + 1 : Nat) : Int)).toNat < ((p.L.length : Int) - i.I).toNat
        omega
  · cases h
theorem ok39_10 (n : Nat) : LoopSim C (n + 3) 39 (loopOf C.P 39 10) (mkL l39_10 G39_10) := by
  refine loop_of hC (sp := sp39) (lp := lp39) ⟨ok88 (n + 1 + 1), ok89 (n + 1), ok19 (n + 1), trivial⟩ [] (by kernel_rfl) rfl (fun k hk => by cases hk) (by kernel_rfl) (fun ds => (((ds.getD 3 default).L.length : Int) - (ds.getD 1 default).I).toNat) fun ds r h => ?_
  unfold G39_10 at h
  split at h
  · rename_i m i p c j
    obtain ⟨hp, h⟩ := need_some h
    rw [yes_iff] at hp
    obtain ⟨h1, h2, h3⟩ := hp
    refine ⟨by rw [fuelC]; simp; omega, ?_⟩
    rw [show roundT C (mkTab sp39 lp39) 39 (loopOf C.P 39 10) l39_10 [m, i, p, c, j] = _ from t39_10 m i p c j]
    obtain ⟨k, hk⟩ : ∃ k : Nat, i.I = k := ⟨i.I.toNat, by omega⟩
    simp only [run_ite, run_need, run_leaf, hk, Int.toNat_natCast] at h h3 ⊢
    refine all_loop (p := crestAt m.I c.L) (i := k) (len := c.L.length) [D.i m.I, D.i (k + 1 : Nat), D.l p.L, D.l c.L, D.l j.L] h ?_ ?_
    · simp only [crestAt, riseAt, ix_def, Nat.zero_add, wrap_succ (show k < 9223372036854775807 by omega), wrap_pred (show k < 9223372036854775807 by omega), toNat_pred]
      grind
    · intro hlt hp hh
      refine ⟨Eq.trans (need_yes (p := _) (t := _) ?_) hh, ?_⟩
      · simp only [I_i, L_l]
        exact ⟨h1, by omega, by omega⟩
      · show ((c.L.length : Int) - ((k + 1 : Nat) : Int)).toNat < ((c.L.length : Int) - i.I).toNat
        omega
  · cases h
theorem ok39_16 (n : Nat) : LoopSim C (n + 3) 39 (loopOf C.P 39 16) (mkL l39_16 G39_16) := by
  refine loop_of hC (sp := sp39) (lp := lp39) ⟨ok88 (n + 1 + 1), ok89 (n + 1), ok19 (n + 1), trivial⟩ [] (by kernel_rfl) rfl (fun k hk => by cases hk) (by kernel_rfl) (fun ds => (((ds.getD 4 default).L.length : Int) - (ds.getD 1 default).I).toNat) fun ds r h => ?_
  unfold G39_16 at h
  split at h
  · rename_i m i p c j
    obtain ⟨hp, h⟩ := need_some h
    rw [yes_iff] at hp
    obtain ⟨h1, h2, h3⟩ := hp
    refine ⟨by rw [fuelC]; simp; omega, ?_⟩
    rw [show roundT C (mkTab sp39 lp39) 39 (loopOf C.P 39 16) l39_16 [m, i, p, c, j] = _ from t39_16 m i p c j]
    obtain ⟨k, hk⟩ : ∃ k : Nat, i.I = k := ⟨i.I.toNat, by omega⟩
    simp only [run_ite, run_need, run_leaf, hk, Int.toNat_natCast] at h h3 ⊢
    refine all_loop (p := juncAt m.I j.L) (i := k) (len := j.L.length) [D.i m.I, D.i (k + 1 : Nat), D.l p.L, D.l c.L, D.l j.L] h ?_ ?_
    · simp only [juncAt, riseAt, ix_def, Nat.zero_add, wrap_succ (show k < 9223372036854775807 by omega), wrap_pred (show k < 9223372036854775807 by omega), toNat_pred]
      grind
    · intro hlt hp hh
      refine ⟨Eq.trans (need_yes (p := _) (t := _) ?_) hh, ?_⟩
      · simp only [I_i, L_l]
        exact ⟨h1, by omega, by omega⟩
      · show ((j.L.length : Int) - ((k + 1 : Nat) : Int)).toNat < ((j.L.length : Int) - i.I).toNat
        omega
  · cases h
theorem ok51_14 (n : Nat) : LoopSim C (n + 3) 51 (loopOf C.P 51 14) (mkL l51_14 G51_14) := by
  refine loop_of hC (sp := sp51) (lp := lp51) ⟨ok55 (n + 1 + 1), ok97 (n + 1), trivial⟩ [] (by kernel_rfl) rfl (fun k hk => by cases hk) (by kernel_rfl) (fun ds => ((ds.getD 2 default).I - (ds.getD 3 default).I).toNat) fun ds r h => ?_
  unfold G51_14 at h
  split at h
  · rename_i x q m i p c j
    obtain ⟨hp, h⟩ := need_some h
    rw [yes_iff] at hp
    obtain ⟨h1, h2, h3, h4, h5⟩ := hp
    refine ⟨by rw [fuelC]; simp; omega, ?_⟩
    rw [show roundT C (mkTab sp51 lp51) 51 (loopOf C.P 51 14) l51_14 [x, q, m, i, p, c, j] = _ from t51_14 x q m i p c j]
    obtain ⟨k, hk⟩ : ∃ k : Nat, i.I = k := ⟨i.I.toNat, by omega⟩
    simp only [run_ite, run_need, run_leaf, hk, h1, h2, Int.toNat_natCast] at h h4 h5 ⊢
    refine all_loop (p := crestAt x.I c.L) (i := k) (len := c.L.length) [D.i x.I, D.l c.L, D.i c.L.length, D.i (k + 1 : Nat), D.l p.L, D.l c.L, D.l j.L] h ?_ ?_
    · simp only [crestAt, riseAt, ix_def, Nat.zero_add, wrap_succ (show k < 9223372036854775807 by omega), wrap_pred (show k < 9223372036854775807 by omega), toNat_pred]
      grind
    · intro hlt hp hh
      refine ⟨Eq.trans (need_yes (p := _) (t := _) ?_) hh, ?_⟩
      · simp only [I_i, L_l]
        exact ⟨trivial, trivial, by omega, by omega, h5⟩
      · show ((c.L.length : Int) - ((k + 1 : Nat) : Int)).toNat < (m.I - i.I).toNat
        omega
  · cases h
theorem ok51_20 (n : Nat) : LoopSim C (n + 3) 51 (loopOf C.P 51 20) (mkL l51_20 G51_20) := by
  refine loop_of hC (sp := sp51) (lp := lp51) ⟨ok55 (n + 1 + 1), ok97 (n + 1), trivial⟩ [] (by kernel_rfl) rfl (fun k hk => by cases hk) (by kernel_rfl) (fun ds => ((ds.getD 2 default).I - (ds.getD 3 default).I).toNat) fun ds r h => ?_
  unfold G51_20 at h
  split at h
  · rename_i x q m i p c j
    obtain ⟨hp, h⟩ := need_some h
    rw [yes_iff] at hp
    obtain ⟨h1, h2, h3, h4, h5⟩ := hp
    refine ⟨by rw [fuelC]; simp; omega, ?_⟩
    rw [show roundT C (mkTab sp51 lp51) 51 (loopOf C.P 51 20) l51_20 [x, q, m, i, p, c, j] = _ from t51_20 x q m i p c j]
    obtain ⟨k, hk⟩ : ∃ k : Nat, i.I = k := ⟨i.I.toNat, by omega⟩
    simp only [run_ite, run_need, run_leaf, hk, h1, h2, Int.toNat_natCast] at h h4 h5 ⊢
    refine all_loop (p := juncAt x.I j.L) (i := k) (len := j.L.length) [D.i x.I, D.l j.L, D.i j.L.length, D.i (k + 1 : Nat), D.l p.L, D.l c.L, D.l j.L] h ?_ ?_
    · simp only [juncAt, riseAt, ix_def, Nat.zero_add, wrap_succ (show k < 9223372036854775807 by omega), wrap_pred (show k < 9223372036854775807 by omega), toNat_pred]
      grind
    · intro hlt hp hh
      refine ⟨Eq.trans (need_yes (p := _) (t := _) ?_) hh, ?_⟩
      · simp only [I_i, L_l]
        exact ⟨trivial, trivial, by omega, by omega, h5⟩
      · show ((j.L.length : Int) - ((k + 1 : Nat) : Int)).toNat < (m.I - i.I).toNat
        omega
  · cases h
theorem ok39 (n : Nat) : FnOK C (n + 4) 39 (mkF s39 G39) := by
  refine fn_of hC (sp := sp39) (lp := lp39) ⟨ok88 (n + 1 + 1), ok89 (n + 1), ok19 (n + 1), trivial⟩ (by kernel_rfl) [4, 10, 16] (by kernel_rfl) (by kernel_rfl) (fun k hk L hL => by simp at hk; rcases hk with hk | hk | hk <;> subst hk <;> cases hL; exact ok39_4 n; exact ok39_10 n; exact ok39_16 n) fun ds r h => ?_
  unfold G39 at h
  split at h
  · rename_i p c j
    rw [← h]
    refine (congrArg T.run (t39 p c j)).trans ?_
    simp only [run_ite, run_need, run_leaf, yes_iff, roadOk, sizesOk, Int.toNat_zero, Nat.sub_zero]
    by_cases a1 : within (p.L.length : Int) 1 2000 = true
    case neg => simp [a1]
    have a0 := Lite.within_iff.1 a1
    by_cases a2 : c.L.length ≤ 1000
    case neg => simp [a1, a2, show (c.L.length : Int) > 1000 by omega]
    by_cases a3 : j.L.length ≤ 200
    case neg => simp [a1, a2, a3, show ¬ (c.L.length : Int) > 1000 by omega, show (j.L.length : Int) > 200 by omega]
    by_cases a4 : allFrom (pieceAt p.L) 0 p.L.length = true
    case neg => simp [a1, a2, a3, a4, show ¬ (c.L.length : Int) > 1000 by omega, show ¬ (j.L.length : Int) > 200 by omega, show p.L.length ≤ 2000 by omega]
    simp [a1, a2, a3, a4, show ¬ (c.L.length : Int) > 1000 by omega, show ¬ (j.L.length : Int) > 200 by omega, show p.L.length ≤ 2000 by omega]
    cases allFrom (crestAt (lenR p.L) c.L) 0 c.L.length <;> cases allFrom (juncAt (lenR p.L) j.L) 0 j.L.length <;> simp
  · cases h
end Go.Proofs.Ytgoedfonmocafaa
namespace Go.Proofs.Ytgoedfonmocafaa
open Go.Lite
theorem ok51_5 (n : Nat) : LoopSim C (n + 3) 51 (loopOf C.P 51 5) (mkL l51_5 G51_5) := by
  refine loop_of hC (sp := sp51) (lp := lp51) ⟨ok55 (n + 1 + 1), ok97 (n + 1), trivial⟩ [] (by kernel_rfl) rfl (fun k hk => by cases hk) (by kernel_rfl) (fun ds => ((ds.getD 2 default).I - (ds.getD 3 default).I).toNat) fun ds r h => ?_
  unfold G51_5 at h
  split at h
  · rename_i x q m i p c j
    obtain ⟨hp, h⟩ := need_some h
    rw [yes_iff] at hp
    obtain ⟨h1, h2, h3, h4, h5, h6, h7⟩ := hp
    refine ⟨by rw [fuelC]; simp; omega, ?_⟩
    rw [show roundT C (mkTab sp51 lp51) 51 (loopOf C.P 51 5) l51_5 [x, q, m, i, p, c, j] = _ from t51_5 x q m i p c j]
    obtain ⟨k, hk⟩ : ∃ k : Nat, i.I = k := ⟨i.I.toNat, by omega⟩
    simp only [run_ite, run_need, run_leaf, hk, h1, h2, Int.toNat_natCast] at h h4 h5 h7 ⊢
    by_cases hlt : (k : Int) < p.L.length
    · rw [show p.L.length - k = (p.L.length - (k + 1)) + 1 by omega] at h
      by_cases hp : pieceAt p.L k = true
      · have hb := lenFrom_bound (l := p.L) 1 k fun y a b => by rw [show y = k by omega]; exact hp
        simp only [lenFrom] at hb
        have w0 : IntKind.i64.wrap (x.I + ix (p.L.getD k []) 0) = x.I + ix (p.L.getD k []) 0 := wrap_id (by omega) (by omega)
        have w1 : IntKind.i64.wrap ((k : Int) + 1) = ((k + 1 : Nat) : Int) := wrap_succ (by omega)
        have hp' := hp
        simp only [pieceAt] at hp'
        simp only [allFrom, hp, Bool.true_and, lenFrom] at h
        refine again_ok (ds' := [D.i (x.I + ix (p.L.getD k []) 0), D.l p.L, D.i p.L.length, D.i (k + 1 : Nat), D.l p.L, D.l c.L, D.l j.L]) ?_ ?_ ?_
        · simp only [ix_def, Nat.zero_add, Nat.reduceAdd, hlt, decide_true, if_true, hp', Bool.not_true, Bool.false_eq_true, if_false, w0, w1, show (0 : Int) ≤ (k : Int) from by omega, and_self]
        · refine (need_yes ⟨by simp only [L_l], by simp only [I_i, L_l], by simp only [I_i]; omega, by simp only [I_i]; omega, by simp only [I_i]; omega, by simp only [I_i]; omega, by simp only [I_i]; omega⟩).trans ?_
          rw [← h]
          simp only [run_ite, run_leaf, I_i, L_l, Int.toNat_natCast, Int.add_assoc]
        · show ((p.L.length : Int) - ((k + 1 : Nat) : Int)).toNat < (m.I - i.I).toNat
          omega
      · refine out_ok ?_
        have hp' := hp
        simp only [pieceAt] at hp'
        simp only [allFrom, hp, Bool.false_and, Bool.false_eq_true, if_false, Option.some.injEq] at h
        simp only [ix_def, Nat.zero_add, Nat.reduceAdd, hlt, decide_true, if_true, hp', Bool.not_false, show (0 : Int) ≤ (k : Int) from by omega, and_self, ← h]
    · refine out_ok ?_
      rw [show p.L.length - k = 0 by omega] at h
      simp only [allFrom, lenFrom, Int.add_zero, if_true, Option.some.injEq] at h
      simp only [hlt, decide_false, Bool.false_eq_true, if_false, ← h]
  · cases h
theorem ok51 (n : Nat) : FnOK C (n + 4) 51 (mkF s51 G51) := by
  refine fn_of hC (sp := sp51) (lp := lp51) ⟨ok55 (n + 1 + 1), ok97 (n + 1), trivial⟩ (by kernel_rfl) [5, 14, 20] (by kernel_rfl) (by kernel_rfl) (fun k hk L hL => by simp at hk; rcases hk with hk | hk | hk <;> subst hk <;> cases hL; exact ok51_5 n; exact ok51_14 n; exact ok51_20 n) fun ds r h => ?_
  unfold G51 at h
  split at h
  · rename_i p c j
    rw [← h]
    refine (congrArg T.run (t51 p c j)).trans ?_
    simp only [run_ite, run_need, run_leaf, yes_iff, roadOk, sizesOk, Int.toNat_zero, Nat.sub_zero, Int.zero_add]
    by_cases a1 : within (p.L.length : Int) 1 2000 = true
    case neg => simp [a1]
    have a0 := Lite.within_iff.1 a1
    by_cases a2 : c.L.length ≤ 1000
    case neg => simp [a1, a2, show (c.L.length : Int) > 1000 by omega]
    by_cases a3 : j.L.length ≤ 200
    case neg => simp [a1, a2, a3, show ¬ (c.L.length : Int) > 1000 by omega, show (j.L.length : Int) > 200 by omega]
    by_cases a4 : allFrom (pieceAt p.L) 0 p.L.length = true
    case neg => simp [a1, a2, a3, a4, show ¬ (c.L.length : Int) > 1000 by omega, show ¬ (j.L.length : Int) > 200 by omega, show (p.L.length : Int) ≤ 2000 by omega]
    by_cases a5 : lenR p.L ≤ 100000
    case neg => simp [a1, a2, a3, a4, a5, show lenFrom p.L 0 p.L.length = lenR p.L from rfl, show ¬ (c.L.length : Int) > 1000 by omega, show ¬ (j.L.length : Int) > 200 by omega, show (p.L.length : Int) ≤ 2000 by omega, show lenR p.L > 100000 by omega]
    simp [a1, a2, a3, a4, a5, show lenFrom p.L 0 p.L.length = lenR p.L from rfl, show ¬ (c.L.length : Int) > 1000 by omega, show ¬ (j.L.length : Int) > 200 by omega, show (p.L.length : Int) ≤ 2000 by omega, show ¬ lenR p.L > 100000 by omega, show (c.L.length : Int) ≤ 1000 by omega, show (j.L.length : Int) ≤ 200 by omega]
    cases allFrom (crestAt (lenR p.L) c.L) 0 c.L.length <;> cases allFrom (juncAt (lenR p.L) j.L) 0 j.L.length <;> simp
  · cases h
end Go.Proofs.Ytgoedfonmocafaa
namespace Go.Proofs.Ytgoedfonmocafaa
open Go.Lite
def s52 : SigW := ⟨[.agg [.k (.ro [.int .i64, .int .i64, .int .i64, .int .i64, .int .i64]), .k (.ro [.int .i64, .int .i64]), .k (.ro [.int .i64, .int .i64, .int .i64])]], [], [(.ptr 0 4 0 0, [.box [.k (.ro [.int .i64, .int .i64, .int .i64, .int .i64, .int .i64]), .k (.ro [.int .i64, .int .i64]), .k (.ro [.int .i64, .int .i64, .int .i64]), .sl 1 1], .row [.int .i64]])]⟩
def l52_4 : LSig := mkLS [3, 4, 11, 12, 13] [(43, [(3, .ptr 0 4 0 0), (4, .k (.int .i64)), (11, .k (.ro [.int .i64, .int .i64, .int .i64, .int .i64, .int .i64])), (12, .k (.int .i64)), (13, .k (.int .i64))], [.box [.k (.ro [.int .i64, .int .i64, .int .i64, .int .i64, .int .i64]), .k (.ro [.int .i64, .int .i64]), .k (.ro [.int .i64, .int .i64, .int .i64]), .nils]]), (43, [(3, .ptr 0 4 0 0), (4, .k (.int .i64)), (11, .k (.ro [.int .i64, .int .i64, .int .i64, .int .i64, .int .i64])), (12, .k (.int .i64)), (13, .k (.int .i64))], [.box [.k (.ro [.int .i64, .int .i64, .int .i64, .int .i64, .int .i64]), .k (.ro [.int .i64, .int .i64]), .k (.ro [.int .i64, .int .i64, .int .i64]), .sl 1 1], .row [.int .i64]])] [(.exit 0, [3, 4], [(43, [(3, .ptr 0 4 0 0), (4, .k (.int .i64))], [.box [.k (.ro [.int .i64, .int .i64, .int .i64, .int .i64, .int .i64]), .k (.ro [.int .i64, .int .i64]), .k (.ro [.int .i64, .int .i64, .int .i64]), .nils]]), (43, [(3, .ptr 0 4 0 0), (4, .k (.int .i64))], [.box [.k (.ro [.int .i64, .int .i64, .int .i64, .int .i64, .int .i64]), .k (.ro [.int .i64, .int .i64]), .k (.ro [.int .i64, .int .i64, .int .i64]), .sl 1 1], .row [.int .i64]])])]
def s53 : Sig := ⟨[.eptr [.k (.ro [.int .i64, .int .i64, .int .i64, .int .i64, .int .i64]), .k (.ro [.int .i64, .int .i64]), .k (.ro [.int .i64, .int .i64, .int .i64]), .k (.ro [.int .i64])]], [(.k (.int .i64), [])]⟩
end Go.Proofs.Ytgoedfonmocafaa
namespace Go.Proofs.Ytgoedfonmocafaa
open Go.Lite
noncomputable section
def begs (l : List (List D)) : Nat → Nat → Int → List (List D)
  | _, 0, _ => []
  | i, k + 1, n => [D.i n] :: begs l (i + 1) k (n + ix (l.getD i []) 0)
def begR (l : List (List D)) : List (List D) := begs l 0 l.length 0 ++ [[D.i (lenR l)]]
def manyP (l : List (List D)) : Prop := 1 ≤ l.length ∧ l.length ≤ 2000 ∧ allFrom (pieceAt l) 0 l.length = true
def G52 (ds : List D) : T (List D) := match ds with
  | [p, c, j] => .need (yes (manyP p.L)) (.leaf [.l p.L, .l c.L, .l j.L, .i (p.L.length + 1 : Nat), .l (begR p.L)])
  | _ => .fail
def G52_4 (ds : List D) : T (Ex × List D) := match ds with
  | [h, n, q, m, i, p, c, j] => .need (yes (h.I = 0 ∧ n.I = 0 ∧ q.L = p.L ∧ m.I = p.L.length ∧ i.I = 0 ∧ manyP p.L))
      (.leaf (.exit 0, [.i 1, .i (lenR p.L), .l p.L, .l c.L, .l j.L, .i p.L.length, .l (begs p.L 0 p.L.length 0)]))
  | [h, n, q, m, i, p, c, j, s, r] => .need (yes (h.I = 1 ∧ q.L = p.L ∧ m.I = p.L.length ∧ 1 ≤ i.I ∧ i.I ≤ m.I ∧ manyP p.L ∧ s.I = i.I ∧ r.L.length = i.I ∧ 0 ≤ n.I ∧ n.I ≤ 5000 * i.I))
      (.leaf (.exit 0, [.i 1, .i (n.I + lenFrom p.L i.I.toNat (p.L.length - i.I.toNat)), .l p.L, .l c.L, .l j.L, .i p.L.length, .l (r.L ++ begs p.L i.I.toNat (p.L.length - i.I.toNat) n.I)]))
  | _ => .fail
def G53 (ds : List D) : T (List D) := match ds with
  | [p, _, _, r] => .need (yes (manyP p.L ∧ r.L = begR p.L)) (.leaf [.i (ix (r.L.getD p.L.length []) 0)])
  | _ => .fail
end
end Go.Proofs.Ytgoedfonmocafaa
namespace Go.Proofs.Ytgoedfonmocafaa
open Go.Lite
noncomputable def sp52 : SpL := []
noncomputable def lp52 : LpL := [(4, mkL l52_4 G52_4)]
noncomputable def sw52 : SwL := []
noncomputable def tab52 : Tab := mkTab sp52 lp52 sw52
noncomputable def sp53 : SpL := []
noncomputable def lp53 : LpL := []
noncomputable def sw53 : SwL := []
noncomputable def tab53 : Tab := mkTab sp53 lp53 sw53
end Go.Proofs.Ytgoedfonmocafaa
namespace Go.Proofs.Ytgoedfonmocafaa
open Go.Lite
set_option linter.unusedVariables false
set_option maxRecDepth 100000
theorem t52 (a b c : D) : fnTW C tab52 52 s52 [a, b, c] =
  T.need (yes ((↑0 : Int) = (0 : Int) ∧ (0 : Int) = (0 : Int) ∧ a.L = a.L ∧ (a.L.length : Int) = (a.L.length : Int) ∧ (0 : Int) = (0 : Int) ∧ manyP a.L)) (T.need true (T.ite false (T.leaf [D.l a.L, D.l b.L, D.l c.L, D.i (↑(Int.toNat (a.L.length : Int)) : Int), D.l (begs a.L 0 a.L.length (0 : Int))]) (T.need (decide (Int.toNat (a.L.length : Int) ≤ List.length (begs a.L 0 a.L.length (0 : Int)) ∧ Int.toNat (a.L.length : Int) + 1 ≤ 2 ^ 62 ∧ (Int.toNat (a.L.length : Int) + 1) * Try.prog.types[3].bytes ≤ 2 ^ 47)) (T.leaf [D.l a.L, D.l b.L, D.l c.L, D.i (↑(Int.toNat (a.L.length : Int) + 1) : Int), D.l (List.take (Int.toNat (a.L.length : Int)) (begs a.L 0 a.L.length (0 : Int)) ++ List.take (List.length [[D.i (lenR a.L)]]) [[D.i (lenR a.L)]])])))) := by kernel_rfl
theorem t52_4_0 (a b c d e f g : D) : roundT C tab52 52 (loopOf C.P 52 4) l52_4 [.i 0, a, b, c, d, e, f, g] =
  T.ite (decide (d.I < c.I)) (T.need (decide ((0 : Int) ≤ d.I ∧ d.I < (b.L.length : Int))) (T.need true (T.ite false (T.leaf (Rd.again [D.i 0, D.i (IntKind.wrap IntKind.i64 (a.I + D.I (List.getD (List.getD b.L d.I.toNat []) 0 default))), D.l b.L, D.i c.I, D.i (IntKind.wrap IntKind.i64 (d.I + (1 : Int))), D.l e.L, D.l f.L, D.l g.L])) (T.need true (T.leaf (Rd.again [D.i 1, D.i (IntKind.wrap IntKind.i64 (a.I + D.I (List.getD (List.getD b.L d.I.toNat []) 0 default))), D.l b.L, D.i c.I, D.i (IntKind.wrap IntKind.i64 (d.I + (1 : Int))), D.l e.L, D.l f.L, D.l g.L, D.i 1, D.l [[D.i a.I]]])))))) (T.leaf (Rd.out (Ex.exit 0) [D.i 0, D.i a.I, D.l e.L, D.l f.L, D.l g.L])) := by kernel_rfl
theorem t52_4_1 (a b c d e f g h i : D) : roundT C tab52 52 (loopOf C.P 52 4) l52_4 [.i 1, a, b, c, d, e, f, g, h, i] =
  T.ite (decide (d.I < c.I)) (T.need (decide ((0 : Int) ≤ d.I ∧ d.I < (b.L.length : Int))) (T.need true (T.ite false (T.leaf (Rd.again [D.i 1, D.i (IntKind.wrap IntKind.i64 (a.I + D.I (List.getD (List.getD b.L d.I.toNat []) 0 default))), D.l b.L, D.i c.I, D.i (IntKind.wrap IntKind.i64 (d.I + (1 : Int))), D.l e.L, D.l f.L, D.l g.L, D.i (h.I.toNat : Int), D.l i.L])) (T.need (decide (h.I.toNat ≤ i.L.length ∧ h.I.toNat + 1 ≤ 2 ^ 62 ∧ (h.I.toNat + 1) * Try.prog.types[3].bytes ≤ 2 ^ 47)) (T.leaf (Rd.again [D.i 1, D.i (IntKind.wrap IntKind.i64 (a.I + D.I (List.getD (List.getD b.L d.I.toNat []) 0 default))), D.l b.L, D.i c.I, D.i (IntKind.wrap IntKind.i64 (d.I + (1 : Int))), D.l e.L, D.l f.L, D.l g.L, D.i (↑(h.I.toNat + 1) : Int), D.l (List.take h.I.toNat i.L ++ List.take (List.length [[D.i a.I]]) [[D.i a.I]])])))))) (T.leaf (Rd.out (Ex.exit 0) [D.i 1, D.i a.I, D.l e.L, D.l f.L, D.l g.L, D.i (h.I.toNat : Int), D.l i.L])) := by kernel_rfl
theorem t53 (a b c d : D) : fnT C tab53 53 s53 [a, b, c, d] =
  T.need (decide ((0 : Int) ≤ (a.L.length : Int) ∧ (a.L.length : Int) < (d.L.length : Int))) (T.leaf [D.i (D.I (List.getD (List.getD d.L (Int.toNat (a.L.length : Int)) []) 0 default))]) := by kernel_rfl
end Go.Proofs.Ytgoedfonmocafaa
namespace Go.Proofs.Ytgoedfonmocafaa
open Go.Lite
theorem begs_length (l : List (List D)) : ∀ (k i : Nat) (n : Int), (begs l i k n).length = k
  | 0, _, _ => rfl
  | k + 1, i, n => by simp only [begs, List.length_cons, begs_length l k]
theorem begR_length (l : List (List D)) : (begR l).length = l.length + 1 := by simp [begR, begs_length]
theorem ok53 (n : Nat) : FnOK C (n + 1) 53 (mkF s53 G53) := by
  refine fn_of hC (sp := sp53) (lp := lp53) trivial (by kernel_rfl) [] (by kernel_rfl) rfl (fun k hk => by cases hk) fun ds r h => ?_
  unfold G53 at h
  split at h
  · rename_i p c j b
    obtain ⟨hp, h⟩ := need_some h
    rw [yes_iff] at hp
    rw [← h]
    refine (congrArg T.run (t53 p c j b)).trans ?_
    have hl : b.L.length = p.L.length + 1 := by rw [hp.2, begR_length]
    simp only [run_need, run_leaf, ix_def, Int.toNat_natCast, show (0 : Int) ≤ (p.L.length : Int) ∧ (p.L.length : Int) < (b.L.length : Int) from by omega, and_self, decide_true, if_true]
  · cases h
end Go.Proofs.Ytgoedfonmocafaa
namespace Go.Proofs.Ytgoedfonmocafaa
open Go.Lite
noncomputable section
def stretchP (n a b c : Int) : Bool := within a 0 (n - 1) && within b 0 100000 && within c (-40) 80
def stretchAt (l : List (List D)) (n : Int) (j : Nat) : Bool := stretchP n (ix (l.getD j []) 0) (ix (l.getD j []) 1) (ix (l.getD j []) 2)
def loopOk (l : List (List D)) (n : Int) : Bool := decide (l.length ≤ 30) && allFrom (stretchAt l n) 0 l.length
end
end Go.Proofs.Ytgoedfonmocafaa
namespace Go.Proofs.Ytgoedfonmocafaa
open Go.Lite
noncomputable section
def lpE (dg : Int) (wt : Bool) (x : List D) : List D := [.i (IntKind.i64.wrap (ix x 4 - 1)), .i (ix x 0), .i dg, .b wt]
def lpL (dg : Int) (wt : Bool) (p : List (List D)) : List (List D) := p.map (lpE dg wt)
end
section
variable {dry wet wl : List (List D)} {loss : Int}
end
theorem piece_rng {l : List (List D)} (h : allFrom (pieceAt l) 0 l.length = true) {k : Nat} (hk : k < l.length) : (1 ≤ ix (l.getD k []) 0 ∧ ix (l.getD k []) 0 ≤ 5000) ∧ 1 ≤ ix (l.getD k []) 4 ∧ ix (l.getD k []) 4 ≤ 9 := by
  have := allFrom_iff.1 h k (Nat.zero_le _) (by omega)
  simp only [pieceAt, pieceP, Bool.and_eq_true, Lite.within_iff] at this
  exact ⟨this.1.1.1.1, this.1.2⟩
theorem loop_ok {p : List (List D)} {dg : Int} {wt : Bool} (hl : p.length ≤ 30) (hd : -40 ≤ dg ∧ dg ≤ 80) (h : ∀ x ∈ p, (1 ≤ ix x 0 ∧ ix x 0 ≤ 5000) ∧ 1 ≤ ix x 4 ∧ ix x 4 ≤ 8) : loopOk (lpL dg wt p) 8 = true := by
  unfold loopOk
  rw [Bool.and_eq_true, decide_eq_true_eq, allFrom_iff]
  refine ⟨by simpa [lpL] using hl, fun j _ hj => ?_⟩
  have hj' : j < p.length := by simpa [lpL] using hj
  have e : (lpL dg wt p).getD j [] = lpE dg wt (p.getD j []) := by simp [lpL, List.getD_eq_getElem?_getD, hj']
  have hx := h (p.getD j []) (by simp [List.getD_eq_getElem?_getD, hj'])
  have w : IntKind.i64.wrap (ix (p.getD j []) 4 - 1) = ix (p.getD j []) 4 - 1 := wrap_id (by omega) (by omega)
  have f0 : ix (lpE dg wt (p.getD j [])) 0 = ix (p.getD j []) 4 - 1 := w
  have f1 : ix (lpE dg wt (p.getD j [])) 1 = ix (p.getD j []) 0 := rfl
  have f2 : ix (lpE dg wt (p.getD j [])) 2 = dg := rfl
  simp only [stretchAt, stretchP, e, f0, f1, f2, Bool.and_eq_true, Lite.within_iff]
  omega
theorem lenFrom_pos {l : List (List D)} : ∀ (k i : Nat), (∀ j, i ≤ j → j < i + k → 0 ≤ ix (l.getD j []) 0) → 0 ≤ lenFrom l i k
  | 0, _, _ => by simp [lenFrom]
  | k + 1, i, h => by
    have h1 := lenFrom_pos (l := l) k (i + 1) fun j a b => h j (by omega) (by omega)
    have h2 := h i (Nat.le_refl _) (by omega)
    simp only [lenFrom]
    omega
end Go.Proofs.Ytgoedfonmocafaa
namespace Go.Proofs.Ytgoedfonmocafaa
open Go.Lite
set_option maxRecDepth 100000
theorem roundTK_head {C : Cfg} {tab : Tab} {f : FuncId} {b : Code} {k : Nat} {s : LSig} {j : D} {n : Int} {r : List D} (h : j.I = n) (hs : 2 ≤ s.head.length) : roundTK C tab f b k s (j :: r) = roundTK C tab f b k s (.i n :: r) := by
  obtain ⟨live, head, exits⟩ := s
  match head, hs with
  | a :: b :: c, _ => simp only [roundTK, roundTG, headL, headA, List.headD_cons, List.tail_cons, I_i, h]
theorem bytes3 : Try.prog.types[3].bytes = 8 := by kernel_rfl
theorem begs_step {p : List (List D)} {k : Nat} (hk : k < p.length) (n : Int) : begs p k (p.length - k) n = [D.i n] :: begs p (k + 1) (p.length - (k + 1)) (n + ix (p.getD k []) 0) := by
  rw [show p.length - k = (p.length - (k + 1)) + 1 by omega]
  rfl
theorem lenFrom_step {p : List (List D)} {k : Nat} (hk : k < p.length) : lenFrom p k (p.length - k) = ix (p.getD k []) 0 + lenFrom p (k + 1) (p.length - (k + 1)) := by
  rw [show p.length - k = (p.length - (k + 1)) + 1 by omega]
  rfl
theorem ok52_4 (n : Nat) : LoopSim C (n + 1) 52 (loopOf C.P 52 4) (mkL l52_4 G52_4) := by
  refine loop_ofK hC (sp := sp52) (lp := lp52) (sw := sw52) trivial trivial 0 [] (by kernel_rfl) rfl (fun k hk => by cases hk) (by kernel_rfl) (fun ds => ((ds.getD 3 default).I - (ds.getD 4 default).I).toNat) fun ds rr h => ?_
  unfold G52_4 at h
  split at h
  · rename_i z n q m i p c j
    obtain ⟨hp, h⟩ := need_some h
    rw [yes_iff] at hp
    obtain ⟨hz, h1, h2, h3, h4, hm⟩ := hp
    obtain ⟨m1, m2, m3⟩ := id hm
    refine ⟨by rw [fuelC]; simp; omega, ?_⟩
    rw [roundTK_head (j := z) (n := 0) hz (by decide), show roundTK C (mkTab sp52 lp52 sw52) 52 (loopOf C.P 52 4) 0 l52_4 [.i 0, n, q, m, i, p, c, j] = _ from t52_4_0 n q m i p c j]
    have hb := lenFrom_bound (l := p.L) 1 0 fun y a b => (allFrom_iff.1 m3) y (Nat.zero_le _) (by omega)
    simp only [lenFrom, Int.add_zero] at hb
    simp only [h1, h2, h3, h4, Int.toNat_zero, ix_def] at h ⊢
    have hx : lenR p.L = _ := lenFrom_step (p := p.L) (k := 0) (by omega)
    have hy := begs_step (p := p.L) (k := 0) (by omega) 0
    rw [Nat.sub_zero, Int.zero_add] at hy
    rw [hx, hy] at h
    have w1 : IntKind.i64.wrap ((0 : Int) + 1) = 1 := by decide
    have w2 : IntKind.i64.wrap (0 + ix (p.L.getD 0 []) 0) = ix (p.L.getD 0 []) 0 := by rw [Int.zero_add]; exact wrap_id (by omega) (by omega)
    rw [w1, w2]
    refine rd_pos (by omega) (rd_dec (by omega) (rd_need rfl (rd_false rfl (rd_need rfl (rd_again ((need_yes ⟨rfl, rfl, rfl, by simp only [I_i]; omega, by simp only [I_i]; omega, hm, rfl, rfl, by simp only [I_i]; omega, by simp only [I_i]; omega⟩).trans ?_) (show ((p.L.length : Int) - 1).toNat < (m.I - i.I).toNat by omega))))))
    rw [← h]
    rfl
  · rename_i z n q m i p c j s r
    obtain ⟨hp, h⟩ := need_some h
    rw [yes_iff] at hp
    obtain ⟨hz, h1, h2, h3, h4, hm, h5, h6, h7, h8⟩ := hp
    obtain ⟨m1, m2, m3⟩ := id hm
    refine ⟨by rw [fuelC]; simp; omega, ?_⟩
    rw [roundTK_head (j := z) (n := 1) hz (by decide), show roundTK C (mkTab sp52 lp52 sw52) 52 (loopOf C.P 52 4) 0 l52_4 [.i 1, n, q, m, i, p, c, j, s, r] = _ from t52_4_1 n q m i p c j s r]
    obtain ⟨k, hk⟩ : ∃ k : Nat, i.I = k := ⟨i.I.toNat, by omega⟩
    have hrl : r.L.length = k := by omega
    have htk : r.L.take k = r.L := List.take_of_length_le (by omega)
    simp only [h1, h2, h5, hk, Int.toNat_natCast, ix_def, htk, bytes3, List.length_cons, List.length_nil, show (0 : Nat) + 1 = 1 from rfl, show ∀ (x : List D), List.take 1 [x] = [x] from fun _ => rfl] at h h3 h4 h7 h8 ⊢
    refine rd_if (fun hlt => ?_) fun hge => rd_out ?_
    · have hlt : k < p.L.length := by omega
      have hb := lenFrom_bound (l := p.L) 1 k fun y a b => (allFrom_iff.1 m3) y (Nat.zero_le _) (by omega)
      simp only [lenFrom] at hb
      rw [begs_step hlt, lenFrom_step hlt] at h
      rw [wrap_succ (by omega), wrap_id (x := n.I + ix (p.L.getD k []) 0) (by omega) (by omega)]
      refine rd_dec (by omega) (rd_need rfl (rd_false rfl (rd_dec (by omega) (rd_again ((need_yes ⟨rfl, by simp only [L_l], by simp only [I_i, L_l], by simp only [I_i]; omega, by simp only [I_i]; omega, hm, by simp only [I_i], by simp only [I_i, L_l, List.length_append, List.length_cons, List.length_nil]; omega, by simp only [I_i]; omega, by simp only [I_i]; omega⟩).trans ?_) (show ((p.L.length : Int) - ((k + 1 : Nat) : Int)).toNat < (m.I - i.I).toNat by omega)))))
      rw [← h]
      simp only [run_leaf, L_l, I_i, Int.toNat_natCast, List.append_assoc, List.cons_append, List.nil_append, Int.add_assoc]
    · rw [← h]
      rw [show p.L.length - k = 0 by omega]
      have : k = p.L.length := by omega
      simp only [begs, lenFrom, List.append_nil, Int.add_zero, run_leaf, this]
  · cases h
theorem ok52 (n : Nat) : FnOKW C (n + 2) 52 (mkFW s52 G52) := by
  refine fn_ofW hC (sp := sp52) (lp := lp52) (sw := sw52) trivial trivial (by kernel_rfl) [4] (by kernel_rfl) (by kernel_rfl) (fun k hk L hL => by simp at hk; subst hk; cases hL; exact ok52_4 n) fun ds rr h => ?_
  unfold G52 at h
  split at h
  · rename_i p c j
    obtain ⟨hm, h⟩ := need_some h
    rw [yes_iff] at hm
    refine (congrArg T.run (t52 p c j)).trans ?_
    have hl : (begs p.L 0 p.L.length 0).length = p.L.length := begs_length _ _ _ _
    have htk : (begs p.L 0 p.L.length 0).take p.L.length = begs p.L 0 p.L.length 0 := List.take_of_length_le (by omega)
    obtain ⟨m1, m2, m3⟩ := id hm
    simp only [Int.toNat_natCast, hl, htk, bytes3]
    refine go_yes ⟨by trivial, by trivial, by trivial, by trivial, by trivial, hm⟩ (go_need rfl (go_false rfl (go_dec (by omega) ?_)))
    rw [← h]
    rfl
  · cases h
theorem begs_get (l : List (List D)) : ∀ (k i q : Nat) (n : Int), q < k → (begs l i k n).getD q [] = [D.i (n + lenFrom l i q)]
  | k + 1, i, 0, n, _ => by simp [begs, lenFrom]
  | k + 1, i, q + 1, n, h => by
    have := begs_get l k (i + 1) q (n + ix (l.getD i []) 0) (by omega)
    simp only [begs, List.getD_cons_succ, lenFrom, this, Int.add_assoc]
theorem begR_get {l : List (List D)} {q : Nat} (h : q ≤ l.length) : ix ((begR l).getD q []) 0 = lenFrom l 0 q := by
  unfold begR
  rw [List.getD_eq_getElem?_getD, List.getElem?_append]
  split
  · rename_i hq
    rw [begs_length] at hq
    rw [← List.getD_eq_getElem?_getD, begs_get _ _ _ _ _ hq]
    simp [ix, D.I]
  · rename_i hq
    rw [begs_length] at hq ⊢
    rw [show q = l.length by omega]
    simp [ix, lenR, D.I]
end Go.Proofs.Ytgoedfonmocafaa
namespace Go.Proofs.Ytgoedfonmocafaa
open Go.Lite
noncomputable section
def roadP (p c j : List (List D)) : Prop := roadOk p c j = true
end
end Go.Proofs.Ytgoedfonmocafaa
namespace Go.Proofs.Ytgoedfonmocafaa
open Go.Lite
def s92 : Sig := ⟨[.k (.int .i64), .k (.int .i64), .k (.int .i64)], [(.k .bool, [])]⟩
def s122 : Sig := ⟨[.k (.int .i64), .k (.int .i64)], [(.k .bool, [])]⟩
def s123 : Sig := ⟨[.k (.int .i64)], [(.k .bool, [])]⟩
def s1130 : Sig := ⟨[.k (.ro [.int .i64]), .fn 123 [] []], [(.k (.int .i64), [])]⟩
def l1130_2 : LSig := mkLS [0, 1, 7, 8] [(19, [(0, .k (.ro [.int .i64])), (1, .fn 123 [] []), (7, .k (.int .i64)), (8, .k (.int .i64))], [])] [(.ret, [4], [(19, [(4, .k (.int .i64))], [])]), (.exit 0, [], [(19, [], [])])]
def s1102 : Sig := ⟨[.k (.ro [.int .i64]), .fn 123 [] []], [(.k .bool, [])]⟩
def s90 : Sig := ⟨[.agg [.k (.int .i64), .k (.int .i64), .k (.ro [.int .i64, .int .i64, .int .i64]), .k (.ro [.int .i64])]], [(.k (.int .i64), [])]⟩
def l90_4 : LSig := mkLS [1, 33, 34, 35] [(71, [(1, .ptr 0 4 0 0), (33, .k (.ro [.int .i64, .int .i64, .int .i64])), (34, .k (.int .i64)), (35, .k (.int .i64))], [.box [.k (.int .i64), .k (.int .i64), .k (.ro [.int .i64, .int .i64, .int .i64]), .k (.ro [.int .i64])]])] [(.ret, [2], [(71, [(2, .k (.int .i64))], [])]), (.exit 0, [1], [(71, [(1, .ptr 0 4 0 0)], [.box [.k (.int .i64), .k (.int .i64), .k (.ro [.int .i64, .int .i64, .int .i64]), .k (.ro [.int .i64])]])])]
def s9 : Sig := ⟨[.agg [.k (.int .i64), .k (.int .i64), .k (.ro [.int .i64, .int .i64, .int .i64]), .k (.ro [.int .i64])]], [(.k .bool, [])]⟩
def l9_4 : LSig := mkLS [1, 3] [(101, [(1, .ptr 0 4 0 0), (3, .k (.int .i64))], [.box [.k (.int .i64), .k (.int .i64), .k (.ro [.int .i64, .int .i64, .int .i64]), .k (.ro [.int .i64])]])] [(.ret, [2], [(101, [(2, .k .bool)], [])]), (.exit 0, [1], [(101, [(1, .ptr 0 4 0 0)], [.box [.k (.int .i64), .k (.int .i64), .k (.ro [.int .i64, .int .i64, .int .i64]), .k (.ro [.int .i64])]])])]
def l9_10 : LSig := mkLS [1, 5] [(101, [(1, .ptr 0 4 0 0), (5, .k (.int .i64))], [.box [.k (.int .i64), .k (.int .i64), .k (.ro [.int .i64, .int .i64, .int .i64]), .k (.ro [.int .i64])]])] [(.ret, [2], [(101, [(2, .k .bool)], [])]), (.exit 2, [], [(101, [], [])])]
def s11 : Sig := ⟨[.agg [.k (.ro [.int .i64, .int .i64, .int .i64, .int .i64, .int .i64]), .k (.ro [.int .i64, .int .i64]), .k (.ro [.int .i64, .int .i64, .int .i64])]], [(.k (.int .i64), [])]⟩
def l11_3 : LSig := mkLS [1, 3, 4] [(21, [(1, .ptr 0 3 0 0), (3, .k (.int .i64)), (4, .k (.int .i64))], [.box [.k (.ro [.int .i64, .int .i64, .int .i64, .int .i64, .int .i64]), .k (.ro [.int .i64, .int .i64]), .k (.ro [.int .i64, .int .i64, .int .i64])]])] [(.exit 0, [3], [(21, [(3, .k (.int .i64))], [])])]
def s40 : Sig := ⟨[.k (.int .i64), .k (.int .i64), .k (.int .i64)], [(.k .bool, [])]⟩
def s8 : Sig := ⟨[.agg [.k (.ro [.int .i64, .int .i64, .int .i64, .int .i64, .int .i64]), .k (.ro [.int .i64, .int .i64]), .k (.ro [.int .i64, .int .i64, .int .i64])]], [(.k .bool, [])]⟩
def s142 : Sig := ⟨[.agg [.k (.int .i64), .k (.int .i64), .k (.ro [.int .i64, .int .i64, .int .i64]), .k (.ro [.int .i64])], .agg [.k (.int .i64), .k (.int .i64), .k (.int .i64), .k (.int .i64), .k (.int .i64)]], [(.tup [.k (.int .i64), .k (.int .i64)], [])]⟩
def l142_4 : LSig := mkLS [2, 3, 6] [(47, [(2, .ptr 0 4 0 0), (3, .ptr 1 5 0 0), (6, .k (.int .i64))], [.box [.k (.int .i64), .k (.int .i64), .k (.ro [.int .i64, .int .i64, .int .i64]), .k (.ro [.int .i64])], .box [.k (.int .i64), .k (.int .i64), .k (.int .i64), .k (.int .i64), .k (.int .i64)]])] [(.exit 0, [2, 6], [(47, [(2, .ptr 0 4 0 0), (6, .k (.int .i64))], [.box [.k (.int .i64), .k (.int .i64), .k (.ro [.int .i64, .int .i64, .int .i64]), .k (.ro [.int .i64])]])])]
def s125 : Sig := ⟨[.agg [.k (.int .i64), .k (.int .i64), .k (.ro [.int .i64, .int .i64, .int .i64]), .k (.ro [.int .i64])], .agg [.k (.int .i64), .k (.int .i64), .k (.int .i64), .k (.int .i64), .k (.int .i64)]], [(.k (.int .i64), [])]⟩
def s126 : Sig := ⟨[.agg [.k (.int .i64), .k (.int .i64), .k (.ro [.int .i64, .int .i64, .int .i64]), .k (.ro [.int .i64])], .agg [.k (.int .i64), .k (.int .i64), .k (.int .i64), .k (.int .i64), .k (.int .i64)]], [(.k (.int .i64), [])]⟩
def s93 : Sig := ⟨[.eptr [.any, .any, .any, .k (.ro [.int .i64, .int .i64])]], [(.k (.int .i64), [])]⟩
def s44 : Sig := ⟨[.eptr [.any, .any, .any, .k (.ro [.int .i64, .int .i64])], .k (.int .i64)], [(.k .bool, [])]⟩
def s45 : Sig := ⟨[.eptr [.any, .any, .any, .k (.ro [.int .i64, .int .i64])], .k (.int .i64), .k (.int .i64), .k (.int .i64)], [(.k (.int .i64), [])]⟩
end Go.Proofs.Ytgoedfonmocafaa
namespace Go.Proofs.Ytgoedfonmocafaa
open Go.Lite
noncomputable section
def bnd (a b : Int) : Bool := decide (1 ≤ a) && (decide (a ≤ b) && decide (b ≤ 700))
def rowSp (l : List (List D)) (k : Nat) : Bool := bnd (ix (l.getD k []) 1) (ix (l.getD k []) 2) && (decide (ix (l.getD k []) 0 ≤ 2000) && riseAt l k)
def pctAt (l : List (List D)) (k : Nat) : Bool := within (ix (l.getD k []) 0) 1 100
def headSp (lo hi : Int) (r u : List (List D)) : Bool := bnd lo hi && (within r.length 1 30 && (decide (u.length = 9) && decide (ix (r.getD 0 []) 0 = 5)))
def speedsOk (lo hi : Int) (r u : List (List D)) : Bool := headSp lo hi r u && (allFrom (rowSp r) 0 r.length && allFrom (pctAt u) 0 9)
def spP (lo hi : Int) (r u : List (List D)) : Prop := speedsOk lo hi r u = true
def rowI (r : List (List D)) (c : Int) : Nat → Nat
  | 0 => 0
  | k + 1 => if ix (r.getD (k + 1) []) 0 > c then rowI r c k else k + 1
def rowLo (lo : Int) (r : List (List D)) (b c : Int) : Int := if b = 0 then lo else ix (r.getD (rowI r c (r.length - 1)) []) 1
def rowHi (hi : Int) (r : List (List D)) (b c : Int) : Int := if b = 0 then hi else ix (r.getD (rowI r c (r.length - 1)) []) 2
def pctOf (u : List (List D)) (e : Int) : Int := ix (u.getD (e - 1).toNat []) 0
def quickV (hi : Int) (r u : List (List D)) (b c e : Int) : Int := (10000000 : Int).tdiv ((rowHi hi r b c * pctOf u e + 99).tdiv 100)
def slowL (lo : Int) (r u : List (List D)) (b c e : Int) : Int := maxI 1 ((rowLo lo r b c * pctOf u e).tdiv 100)
def slowV (lo : Int) (r u : List (List D)) (b c e : Int) : Int := (10000000 + slowL lo r u b c e - 1).tdiv (slowL lo r u b c e)
def pcP (a b c d e : Int) : Prop := pieceP a b c d e = true
def G92 (ds : List D) : T (List D) := match ds with
  | [a, b, c] => .leaf [.b (within a.I b.I c.I)]
  | _ => .fail
def G40 : List D → T (List D) := G92
def G122 (ds : List D) : T (List D) := match ds with
  | [a, b] => .leaf [.b (bnd a.I b.I)]
  | _ => .fail
def G123 (ds : List D) : T (List D) := match ds with
  | [a] => .leaf [.b (!within a.I 1 100)]
  | _ => .fail
def G1130 (ds : List D) : T (List D) := match ds with
  | [l] => .need (yes (l.L.length < big)) (.leaf [.i (firstFrom (fun j => !pctAt l.L j) 0 l.L.length)])
  | _ => .fail
def G1130_2 (ds : List D) : T (Ex × List D) := match ds with
  | [l, n, i] => .need (yes (l.L.length < big ∧ n.I = l.L.length ∧ 0 ≤ i.I ∧ i.I ≤ n.I))
      (.ite (decide (firstFrom (fun j => !pctAt l.L j) i.I.toNat (l.L.length - i.I.toNat) ≥ 0)) (.leaf (.ret, [.i (firstFrom (fun j => !pctAt l.L j) i.I.toNat (l.L.length - i.I.toNat))])) (.leaf (.exit 0, [])))
  | _ => .fail
def G1102 (ds : List D) : T (List D) := match ds with
  | [l] => .need (yes (l.L.length < big)) (.leaf [.b (!allFrom (pctAt l.L) 0 l.L.length)])
  | _ => .fail
def G90 (ds : List D) : T (List D) := match ds with
  | [lo, hi, r, u] => .ite (speedsOk lo.I hi.I r.L u.L) (.leaf [.i 0]) (.leaf [.i 2])
  | _ => .fail
def G90_4 (ds : List D) : T (Ex × List D) := match ds with
  | [q, m, i, lo, hi, r, u] => .need (yes (q.L = r.L ∧ m.I = r.L.length ∧ 0 ≤ i.I ∧ i.I ≤ m.I ∧ m.I ≤ 30))
      (.ite (allFrom (rowSp r.L) i.I.toNat (r.L.length - i.I.toNat)) (.leaf (.exit 0, [.i lo.I, .i hi.I, .l r.L, .l u.L])) (.leaf (.ret, [.i 2])))
  | _ => .fail
def G9 (ds : List D) : T (List D) := match ds with
  | [lo, hi, r, u] => .leaf [.b (speedsOk lo.I hi.I r.L u.L)]
  | _ => .fail
def G9_4 (ds : List D) : T (Ex × List D) := match ds with
  | [i, lo, hi, r, u] => .need (yes (0 ≤ i.I ∧ i.I ≤ r.L.length ∧ r.L.length ≤ 30))
      (.ite (allFrom (rowSp r.L) i.I.toNat (r.L.length - i.I.toNat)) (.leaf (.exit 0, [.i lo.I, .i hi.I, .l r.L, .l u.L])) (.leaf (.ret, [.b false])))
  | _ => .fail
def G9_10 (ds : List D) : T (Ex × List D) := match ds with
  | [i, _, _, _, u] => .need (yes (0 ≤ i.I ∧ i.I ≤ 9 ∧ u.L.length = 9))
      (.ite (allFrom (pctAt u.L) i.I.toNat (9 - i.I.toNat)) (.leaf (.exit 2, [])) (.leaf (.ret, [.b false])))
  | _ => .fail
def G11 : List D → T (List D) := G19
def G11_3 : List D → T (Ex × List D) := G19_3
def G8 (ds : List D) : T (List D) := match ds with
  | [p, c, j] => .leaf [.b (roadOk p.L c.L j.L && decide (lenR p.L ≤ 120))]
  | _ => .fail
def G142 (ds : List D) : T (List D) := match ds with
  | [lo, hi, r, u, a, b, c, d, e] => .need (yes (spP lo.I hi.I r.L u.L ∧ pcP a.I b.I c.I d.I e.I)) (.leaf [.i (rowLo lo.I r.L b.I c.I), .i (rowHi hi.I r.L b.I c.I)])
  | _ => .fail
def G142_4 (ds : List D) : T (Ex × List D) := match ds with
  | [i, lo, hi, r, u, _, _, c, _, _] => .need (yes (r.L.length ≤ 30 ∧ 0 ≤ i.I ∧ i.I < r.L.length ∧ ix (r.L.getD 0 []) 0 ≤ c.I)) (.leaf (.exit 0, [.i (rowI r.L c.I i.I.toNat : Nat), .i lo.I, .i hi.I, .l r.L, .l u.L]))
  | _ => .fail
def G125 (ds : List D) : T (List D) := match ds with
  | [lo, hi, r, u, a, b, c, d, e] => .need (yes (spP lo.I hi.I r.L u.L ∧ pcP a.I b.I c.I d.I e.I)) (.leaf [.i (quickV hi.I r.L u.L b.I c.I e.I)])
  | _ => .fail
def G126 (ds : List D) : T (List D) := match ds with
  | [lo, hi, r, u, a, b, c, d, e] => .need (yes (spP lo.I hi.I r.L u.L ∧ pcP a.I b.I c.I d.I e.I)) (.leaf [.i (slowV lo.I r.L u.L b.I c.I e.I)])
  | _ => .fail
def G93 (ds : List D) : T (List D) := match ds with
  | [s] => .need (yes (s.L.length ≤ 1000000)) (.leaf [.i ((s.L.length : Int) - 1)])
  | _ => .fail
def G44 (ds : List D) : T (List D) := match ds with
  | [s, p] => .need (yes (s.L.length ≤ 1000000)) (.leaf [.b (within p.I 0 ((s.L.length : Int) - 1))])
  | _ => .fail
def sumsP (s : List (List D)) : Prop := ∀ j, (0 ≤ ix (s.getD j []) 0 ∧ ix (s.getD j []) 0 ≤ 10000000000000) ∧ 0 ≤ ix (s.getD j []) 1 ∧ ix (s.getD j []) 1 ≤ 10000000000000
def G45 (ds : List D) : T (List D) := match ds with
  | [s, d, a, b] => .need (yes (sumsP s.L ∧ (d.I = 0 ∨ d.I = 1) ∧ (0 ≤ a.I ∧ a.I < s.L.length) ∧ 0 ≤ b.I ∧ b.I < s.L.length)) (.leaf [.i (ix (s.L.getD b.I.toNat []) d.I.toNat - ix (s.L.getD a.I.toNat []) d.I.toNat)])
  | _ => .fail
end
end Go.Proofs.Ytgoedfonmocafaa
namespace Go.Proofs.Ytgoedfonmocafaa
open Go.Lite
noncomputable def sp92 : SpL := []
noncomputable def lp92 : LpL := []
noncomputable def sw92 : SwL := []
noncomputable def tab92 : Tab := mkTab sp92 lp92 sw92
noncomputable def sp122 : SpL := []
noncomputable def lp122 : LpL := []
noncomputable def sw122 : SwL := []
noncomputable def tab122 : Tab := mkTab sp122 lp122 sw122
noncomputable def sp123 : SpL := [(92, mkF s92 G92)]
noncomputable def lp123 : LpL := []
noncomputable def sw123 : SwL := []
noncomputable def tab123 : Tab := mkTab sp123 lp123 sw123
noncomputable def sp1130 : SpL := [(123, mkF s123 G123)]
noncomputable def lp1130 : LpL := [(2, mkL l1130_2 G1130_2)]
noncomputable def sw1130 : SwL := []
noncomputable def tab1130 : Tab := mkTab sp1130 lp1130 sw1130
noncomputable def sp1102 : SpL := [(130, mkF s1130 G1130), (123, mkF s123 G123)]
noncomputable def lp1102 : LpL := []
noncomputable def sw1102 : SwL := []
noncomputable def tab1102 : Tab := mkTab sp1102 lp1102 sw1102
noncomputable def sp90 : SpL := [(122, mkF s122 G122), (92, mkF s92 G92), (102, mkF s1102 G1102)]
noncomputable def lp90 : LpL := [(4, mkL l90_4 G90_4)]
noncomputable def sw90 : SwL := []
noncomputable def tab90 : Tab := mkTab sp90 lp90 sw90
noncomputable def sp9 : SpL := [(40, mkF s40 G40)]
noncomputable def lp9 : LpL := [(4, mkL l9_4 G9_4), (10, mkL l9_10 G9_10)]
noncomputable def sw9 : SwL := []
noncomputable def tab9 : Tab := mkTab sp9 lp9 sw9
noncomputable def sp11 : SpL := []
noncomputable def lp11 : LpL := [(3, mkL l11_3 G11_3)]
noncomputable def sw11 : SwL := []
noncomputable def tab11 : Tab := mkTab sp11 lp11 sw11
noncomputable def sp40 : SpL := []
noncomputable def lp40 : LpL := []
noncomputable def sw40 : SwL := []
noncomputable def tab40 : Tab := mkTab sp40 lp40 sw40
noncomputable def sp8 : SpL := [(39, mkF s39 G39), (11, mkF s11 G11)]
noncomputable def lp8 : LpL := []
noncomputable def sw8 : SwL := []
noncomputable def tab8 : Tab := mkTab sp8 lp8 sw8
noncomputable def sp142 : SpL := []
noncomputable def lp142 : LpL := [(4, mkL l142_4 G142_4)]
noncomputable def sw142 : SwL := []
noncomputable def tab142 : Tab := mkTab sp142 lp142 sw142
noncomputable def sp125 : SpL := [(142, mkF s142 G142)]
noncomputable def lp125 : LpL := []
noncomputable def sw125 : SwL := []
noncomputable def tab125 : Tab := mkTab sp125 lp125 sw125
noncomputable def sp126 : SpL := [(142, mkF s142 G142)]
noncomputable def lp126 : LpL := []
noncomputable def sw126 : SwL := []
noncomputable def tab126 : Tab := mkTab sp126 lp126 sw126
noncomputable def sp93 : SpL := []
noncomputable def lp93 : LpL := []
noncomputable def sw93 : SwL := []
noncomputable def tab93 : Tab := mkTab sp93 lp93 sw93
noncomputable def sp44 : SpL := [(93, mkF s93 G93), (92, mkF s92 G92)]
noncomputable def lp44 : LpL := []
noncomputable def sw44 : SwL := []
noncomputable def tab44 : Tab := mkTab sp44 lp44 sw44
noncomputable def sp45 : SpL := []
noncomputable def lp45 : LpL := []
noncomputable def sw45 : SwL := []
noncomputable def tab45 : Tab := mkTab sp45 lp45 sw45
end Go.Proofs.Ytgoedfonmocafaa
namespace Go.Proofs.Ytgoedfonmocafaa
open Go.Lite
set_option linter.unusedVariables false
set_option maxRecDepth 100000
theorem t92 (a b c : D) : fnT C tab92 92 s92 [a, b, c] =
  T.ite (decide (a.I ≥ b.I)) (T.leaf [D.b (decide (a.I ≤ c.I))]) (T.leaf [D.b false]) := by kernel_rfl
theorem t122 (a b : D) : fnT C tab122 122 s122 [a, b] =
  T.ite (decide (a.I ≥ (1 : Int))) (T.ite (decide (a.I ≤ b.I)) (T.leaf [D.b (decide (b.I ≤ (700 : Int)))]) (T.leaf [D.b false])) (T.leaf [D.b false]) := by kernel_rfl
theorem t123 (a : D) : fnT C tab123 123 s123 [a] =
  T.leaf [D.b !within a.I (1 : Int) (100 : Int)] := by kernel_rfl
theorem t1130 (a : D) : fnT C tab1130 130 s1130 [a] =
  T.need (yes (a.L.length < big ∧ (a.L.length : Int) = (a.L.length : Int) ∧ (0 : Int) ≤ (0 : Int) ∧ (0 : Int) ≤ (a.L.length : Int))) (T.ite (decide (firstFrom (fun j => !pctAt a.L j) (Int.toNat (0 : Int)) (a.L.length - Int.toNat (0 : Int)) ≥ (0 : Int))) (T.leaf [D.i (firstFrom (fun j => !pctAt a.L j) (Int.toNat (0 : Int)) (a.L.length - Int.toNat (0 : Int)))]) (T.leaf [D.i (-1 : Int)])) := by kernel_rfl
theorem t1130_2 (a b c : D) : roundT C tab1130 130 (loopOf C.P 130 2) l1130_2 [a, b, c] =
  T.ite (decide (c.I < b.I)) (T.need (decide ((0 : Int) ≤ c.I ∧ c.I < (a.L.length : Int))) (T.ite (!within (D.I (List.getD (List.getD a.L c.I.toNat []) 0 default)) (1 : Int) (100 : Int)) (T.leaf (Rd.out Ex.ret [D.i c.I])) (T.leaf (Rd.again [D.l a.L, D.i b.I, D.i (IntKind.wrap IntKind.i64 (c.I + (1 : Int)))])))) (T.leaf (Rd.out (Ex.exit 0) [])) := by kernel_rfl
theorem t1102 (a : D) : fnT C tab1102 102 s1102 [a] =
  T.need (yes (a.L.length < big)) (T.leaf [D.b (decide (firstFrom (fun j => !pctAt a.L j) 0 a.L.length ≥ (0 : Int)))]) := by kernel_rfl
theorem t90 (a b c d : D) : fnT C tab90 90 s90 [a, b, c, d] =
  T.ite (!bnd a.I b.I) (T.leaf [D.i 2]) (T.ite (!within (c.L.length : Int) (1 : Int) (30 : Int)) (T.leaf [D.i 2]) (T.ite ((d.L.length : Int) != (9 : Int)) (T.leaf [D.i 2]) (T.need (decide ((0 : Int) ≤ (0 : Int) ∧ (0 : Int) < (c.L.length : Int))) (T.ite (D.I (List.getD (List.getD c.L (Int.toNat (0 : Int)) []) 0 default) != (5 : Int)) (T.leaf [D.i 2]) (T.need (yes (c.L = c.L ∧ (c.L.length : Int) = (c.L.length : Int) ∧ (0 : Int) ≤ (0 : Int) ∧ (0 : Int) ≤ (c.L.length : Int) ∧ (c.L.length : Int) ≤ (30 : Int))) (T.ite (allFrom (rowSp c.L) (Int.toNat (0 : Int)) (c.L.length - Int.toNat (0 : Int))) (T.need (yes (d.L.length < big)) (T.ite (!allFrom (pctAt d.L) 0 d.L.length) (T.leaf [D.i 2]) (T.leaf [D.i 0]))) (T.leaf [D.i 2]))))))) := by kernel_rfl
theorem t90_4 (a b c d e f g : D) : roundT C tab90 90 (loopOf C.P 90 4) l90_4 [a, b, c, d, e, f, g] =
  T.ite (decide (c.I < b.I)) (T.need (decide ((0 : Int) ≤ c.I ∧ c.I < (a.L.length : Int))) (T.ite (!bnd (D.I (List.getD (List.getD a.L c.I.toNat []) (0 + 1) default)) (D.I (List.getD (List.getD a.L c.I.toNat []) (0 + 1 + 1) default))) (T.leaf (Rd.out Ex.ret [D.i 2])) (T.ite (decide (D.I (List.getD (List.getD a.L c.I.toNat []) 0 default) > (2000 : Int))) (T.leaf (Rd.out Ex.ret [D.i 2])) (T.ite (decide (c.I > (0 : Int))) (T.need (decide ((0 : Int) ≤ IntKind.wrap IntKind.i64 (c.I - (1 : Int)) ∧ IntKind.wrap IntKind.i64 (c.I - (1 : Int)) < (f.L.length : Int))) (T.ite (decide (D.I (List.getD (List.getD a.L c.I.toNat []) 0 default) ≤ D.I (List.getD (List.getD f.L (Int.toNat (IntKind.wrap IntKind.i64 (c.I - (1 : Int)))) []) 0 default))) (T.leaf (Rd.out Ex.ret [D.i 2])) (T.leaf (Rd.again [D.l a.L, D.i b.I, D.i (IntKind.wrap IntKind.i64 (c.I + (1 : Int))), D.i d.I, D.i e.I, D.l f.L, D.l g.L])))) (T.leaf (Rd.again [D.l a.L, D.i b.I, D.i (IntKind.wrap IntKind.i64 (c.I + (1 : Int))), D.i d.I, D.i e.I, D.l f.L, D.l g.L])))))) (T.leaf (Rd.out (Ex.exit 0) [D.i d.I, D.i e.I, D.l f.L, D.l g.L])) := by kernel_rfl
theorem t9 (a b c d : D) : fnT C tab9 9 s9 [a, b, c, d] =
  T.ite (decide (a.I < (1 : Int))) (T.leaf [D.b false]) (T.ite (decide (a.I > b.I)) (T.leaf [D.b false]) (T.ite (decide (b.I > (700 : Int))) (T.leaf [D.b false]) (T.ite (!within (c.L.length : Int) (1 : Int) (30 : Int)) (T.leaf [D.b false]) (T.ite ((d.L.length : Int) != (9 : Int)) (T.leaf [D.b false]) (T.need (decide ((0 : Int) ≤ (0 : Int) ∧ (0 : Int) < (c.L.length : Int))) (T.ite (D.I (List.getD (List.getD c.L (Int.toNat (0 : Int)) []) 0 default) != (5 : Int)) (T.leaf [D.b false]) (T.need (yes ((0 : Int) ≤ (0 : Int) ∧ (0 : Int) ≤ (c.L.length : Int) ∧ c.L.length ≤ 30)) (T.ite (allFrom (rowSp c.L) (Int.toNat (0 : Int)) (c.L.length - Int.toNat (0 : Int))) (T.need (yes ((0 : Int) ≤ (0 : Int) ∧ (0 : Int) ≤ (9 : Int) ∧ d.L.length = 9)) (T.ite (allFrom (pctAt d.L) (Int.toNat (0 : Int)) (9 - Int.toNat (0 : Int))) (T.leaf [D.b true]) (T.leaf [D.b false]))) (T.leaf [D.b false]))))))))) := by kernel_rfl
theorem t9_4 (a b c d e : D) : roundT C tab9 9 (loopOf C.P 9 4) l9_4 [a, b, c, d, e] =
  T.ite (decide (a.I < (d.L.length : Int))) (T.need (decide ((0 : Int) ≤ a.I ∧ a.I < (d.L.length : Int))) (T.ite (decide (D.I (List.getD (List.getD d.L a.I.toNat []) (0 + 1) default) < (1 : Int))) (T.leaf (Rd.out Ex.ret [D.b false])) (T.ite (decide (D.I (List.getD (List.getD d.L a.I.toNat []) (0 + 1) default) > D.I (List.getD (List.getD d.L a.I.toNat []) (0 + 1 + 1) default))) (T.leaf (Rd.out Ex.ret [D.b false])) (T.ite (decide (D.I (List.getD (List.getD d.L a.I.toNat []) (0 + 1 + 1) default) > (700 : Int))) (T.leaf (Rd.out Ex.ret [D.b false])) (T.ite (decide (D.I (List.getD (List.getD d.L a.I.toNat []) 0 default) > (2000 : Int))) (T.leaf (Rd.out Ex.ret [D.b false])) (T.ite (decide (a.I > (0 : Int))) (T.need (decide ((0 : Int) ≤ IntKind.wrap IntKind.i64 (a.I - (1 : Int)) ∧ IntKind.wrap IntKind.i64 (a.I - (1 : Int)) < (d.L.length : Int))) (T.ite (decide (D.I (List.getD (List.getD d.L a.I.toNat []) 0 default) ≤ D.I (List.getD (List.getD d.L (Int.toNat (IntKind.wrap IntKind.i64 (a.I - (1 : Int)))) []) 0 default))) (T.leaf (Rd.out Ex.ret [D.b false])) (T.leaf (Rd.again [D.i (IntKind.wrap IntKind.i64 (a.I + (1 : Int))), D.i b.I, D.i c.I, D.l d.L, D.l e.L])))) (T.leaf (Rd.again [D.i (IntKind.wrap IntKind.i64 (a.I + (1 : Int))), D.i b.I, D.i c.I, D.l d.L, D.l e.L])))))))) (T.leaf (Rd.out (Ex.exit 0) [D.i b.I, D.i c.I, D.l d.L, D.l e.L])) := by kernel_rfl
theorem t9_10 (a b c d e : D) : roundT C tab9 9 (loopOf C.P 9 10) l9_10 [a, b, c, d, e] =
  T.ite (decide (a.I < (9 : Int))) (T.need (decide ((0 : Int) ≤ a.I ∧ a.I < (e.L.length : Int))) (T.ite (!within (D.I (List.getD (List.getD e.L a.I.toNat []) 0 default)) (1 : Int) (100 : Int)) (T.leaf (Rd.out Ex.ret [D.b false])) (T.leaf (Rd.again [D.i (IntKind.wrap IntKind.i64 (a.I + (1 : Int))), D.i b.I, D.i c.I, D.l d.L, D.l e.L])))) (T.leaf (Rd.out (Ex.exit 2) [])) := by kernel_rfl
theorem t11 (a b c : D) : fnT C tab11 11 s11 [a, b, c] =
  T.need (yes (a.L.length ≤ 2000 ∧ allFrom (pieceAt a.L) 0 a.L.length = true ∧ (0 : Int) ≤ (0 : Int) ∧ (0 : Int) ≤ (a.L.length : Int) ∧ (0 : Int) ≤ (0 : Int) ∧ (0 : Int) ≤ (5000 : Int) * (0 : Int))) (T.leaf [D.i ((0 : Int) + lenFrom a.L (Int.toNat (0 : Int)) (a.L.length - Int.toNat (0 : Int)))]) := by kernel_rfl
theorem t11_3 (a b c d e : D) : roundT C tab11 11 (loopOf C.P 11 3) l11_3 [a, b, c, d, e] =
  T.ite (decide (b.I < (c.L.length : Int))) (T.need (decide ((0 : Int) ≤ b.I ∧ b.I < (c.L.length : Int))) (T.leaf (Rd.again [D.i (IntKind.wrap IntKind.i64 (a.I + D.I (List.getD (List.getD c.L b.I.toNat []) 0 default))), D.i (IntKind.wrap IntKind.i64 (b.I + (1 : Int))), D.l c.L, D.l d.L, D.l e.L]))) (T.leaf (Rd.out (Ex.exit 0) [D.i a.I])) := by kernel_rfl
theorem t40 (a b c : D) : fnT C tab40 40 s40 [a, b, c] =
  T.ite (decide (a.I ≥ b.I)) (T.leaf [D.b (decide (a.I ≤ c.I))]) (T.leaf [D.b false]) := by kernel_rfl
theorem t8 (a b c : D) : fnT C tab8 8 s8 [a, b, c] =
  T.ite (roadOk a.L b.L c.L) (T.need (yes (a.L.length ≤ 2000 ∧ allFrom (pieceAt a.L) 0 a.L.length = true)) (T.leaf [D.b (decide (lenR a.L ≤ (120 : Int)))])) (T.leaf [D.b false]) := by kernel_rfl
theorem t142 (a b c d e f g h i : D) : fnT C tab142 142 s142 [a, b, c, d, e, f, g, h, i] =
  T.ite (f.I == (0 : Int)) (T.leaf [D.i a.I, D.i b.I]) (T.need (yes (c.L.length ≤ 30 ∧ (0 : Int) ≤ IntKind.wrap IntKind.i64 ((c.L.length : Int) - (1 : Int)) ∧ IntKind.wrap IntKind.i64 ((c.L.length : Int) - (1 : Int)) < (c.L.length : Int) ∧ ix (List.getD c.L 0 []) 0 ≤ g.I)) (T.need (decide ((0 : Int) ≤ (↑(rowI c.L g.I (Int.toNat (IntKind.wrap IntKind.i64 ((c.L.length : Int) - (1 : Int))))) : Int) ∧ (↑(rowI c.L g.I (Int.toNat (IntKind.wrap IntKind.i64 ((c.L.length : Int) - (1 : Int))))) : Int) < (c.L.length : Int))) (T.need (decide ((0 : Int) ≤ (↑(rowI c.L g.I (Int.toNat (IntKind.wrap IntKind.i64 ((c.L.length : Int) - (1 : Int))))) : Int) ∧ (↑(rowI c.L g.I (Int.toNat (IntKind.wrap IntKind.i64 ((c.L.length : Int) - (1 : Int))))) : Int) < (c.L.length : Int))) (T.leaf [D.i (D.I (List.getD (List.getD c.L (Int.toNat (↑(rowI c.L g.I (Int.toNat (IntKind.wrap IntKind.i64 ((c.L.length : Int) - (1 : Int))))) : Int)) []) (0 + 1) default)), D.i (D.I (List.getD (List.getD c.L (Int.toNat (↑(rowI c.L g.I (Int.toNat (IntKind.wrap IntKind.i64 ((c.L.length : Int) - (1 : Int))))) : Int)) []) (0 + 1 + 1) default))])))) := by kernel_rfl
theorem t142_4 (a b c d e f g h i j : D) : roundT C tab142 142 (loopOf C.P 142 4) l142_4 [a, b, c, d, e, f, g, h, i, j] =
  T.need (decide ((0 : Int) ≤ a.I ∧ a.I < (d.L.length : Int))) (T.ite (decide (D.I (List.getD (List.getD d.L a.I.toNat []) 0 default) > h.I)) (T.leaf (Rd.again [D.i (IntKind.wrap IntKind.i64 (a.I - (1 : Int))), D.i b.I, D.i c.I, D.l d.L, D.l e.L, D.i f.I, D.i g.I, D.i h.I, D.i i.I, D.i j.I])) (T.leaf (Rd.out (Ex.exit 0) [D.i a.I, D.i b.I, D.i c.I, D.l d.L, D.l e.L]))) := by kernel_rfl
theorem t125 (a b c d e f g h i : D) : fnT C tab125 125 s125 [a, b, c, d, e, f, g, h, i] =
  T.need (yes (spP a.I b.I c.L d.L ∧ pcP e.I f.I g.I h.I i.I)) (T.need (decide ((0 : Int) ≤ IntKind.wrap IntKind.i64 (i.I - (1 : Int)) ∧ IntKind.wrap IntKind.i64 (i.I - (1 : Int)) < (d.L.length : Int))) (T.need true (T.need (!IntKind.wrap IntKind.i64 (Int.tdiv (IntKind.wrap IntKind.i64 (IntKind.wrap IntKind.i64 (rowHi b.I c.L f.I g.I * D.I (List.getD (List.getD d.L (Int.toNat (IntKind.wrap IntKind.i64 (i.I - (1 : Int)))) []) 0 default)) + (99 : Int))) (100 : Int)) == (0 : Int)) (T.leaf [D.i (IntKind.wrap IntKind.i64 (Int.tdiv (10000000 : Int) (IntKind.wrap IntKind.i64 (Int.tdiv (IntKind.wrap IntKind.i64 (IntKind.wrap IntKind.i64 (rowHi b.I c.L f.I g.I * D.I (List.getD (List.getD d.L (Int.toNat (IntKind.wrap IntKind.i64 (i.I - (1 : Int)))) []) 0 default)) + (99 : Int))) (100 : Int)))))])))) := by kernel_rfl
theorem t126 (a b c d e f g h i : D) : fnT C tab126 126 s126 [a, b, c, d, e, f, g, h, i] =
  T.need (yes (spP a.I b.I c.L d.L ∧ pcP e.I f.I g.I h.I i.I)) (T.need (decide ((0 : Int) ≤ IntKind.wrap IntKind.i64 (i.I - (1 : Int)) ∧ IntKind.wrap IntKind.i64 (i.I - (1 : Int)) < (d.L.length : Int))) (T.need true (T.need (!maxI (1 : Int) (IntKind.wrap IntKind.i64 (Int.tdiv (IntKind.wrap IntKind.i64 (rowLo a.I c.L f.I g.I * D.I (List.getD (List.getD d.L (Int.toNat (IntKind.wrap IntKind.i64 (i.I - (1 : Int)))) []) 0 default))) (100 : Int))) == (0 : Int)) (T.leaf [D.i (IntKind.wrap IntKind.i64 (Int.tdiv (IntKind.wrap IntKind.i64 (IntKind.wrap IntKind.i64 ((10000000 : Int) + maxI (1 : Int) (IntKind.wrap IntKind.i64 (Int.tdiv (IntKind.wrap IntKind.i64 (rowLo a.I c.L f.I g.I * D.I (List.getD (List.getD d.L (Int.toNat (IntKind.wrap IntKind.i64 (i.I - (1 : Int)))) []) 0 default))) (100 : Int)))) - (1 : Int))) (maxI (1 : Int) (IntKind.wrap IntKind.i64 (Int.tdiv (IntKind.wrap IntKind.i64 (rowLo a.I c.L f.I g.I * D.I (List.getD (List.getD d.L (Int.toNat (IntKind.wrap IntKind.i64 (i.I - (1 : Int)))) []) 0 default))) (100 : Int))))))])))) := by kernel_rfl
theorem t93 (a : D) : fnT C tab93 93 s93 [a] =
  T.leaf [D.i (IntKind.wrap IntKind.i64 ((a.L.length : Int) - (1 : Int)))] := by kernel_rfl
theorem t44 (a b : D) : fnT C tab44 44 s44 [a, b] =
  T.need (yes (a.L.length ≤ 1000000)) (T.leaf [D.b (within b.I (0 : Int) ((a.L.length : Int) - (1 : Int)))]) := by kernel_rfl
theorem t45 (a b c d : D) : fnT C tab45 45 s45 [a, b, c, d] =
  T.need (decide ((0 : Int) ≤ d.I ∧ d.I < (a.L.length : Int))) (T.ite (decide (b.I = (↑0 : Int))) (T.need (decide ((0 : Int) ≤ c.I ∧ c.I < (a.L.length : Int))) (T.ite (decide (b.I = (↑0 : Int))) (T.leaf [D.i (IntKind.wrap IntKind.i64 (D.I (List.getD (List.getD a.L d.I.toNat []) 0 default) - D.I (List.getD (List.getD a.L c.I.toNat []) 0 default)))]) (T.need (decide (b.I = (↑(0 + 1) : Int))) (T.leaf [D.i (IntKind.wrap IntKind.i64 (D.I (List.getD (List.getD a.L d.I.toNat []) 0 default) - D.I (List.getD (List.getD a.L c.I.toNat []) (0 + 1) default)))])))) (T.need (decide (b.I = (↑(0 + 1) : Int))) (T.need (decide ((0 : Int) ≤ c.I ∧ c.I < (a.L.length : Int))) (T.ite (decide (b.I = (↑0 : Int))) (T.leaf [D.i (IntKind.wrap IntKind.i64 (D.I (List.getD (List.getD a.L d.I.toNat []) (0 + 1) default) - D.I (List.getD (List.getD a.L c.I.toNat []) 0 default)))]) (T.need (decide (b.I = (↑(0 + 1) : Int))) (T.leaf [D.i (IntKind.wrap IntKind.i64 (D.I (List.getD (List.getD a.L d.I.toNat []) (0 + 1) default) - D.I (List.getD (List.getD a.L c.I.toNat []) (0 + 1) default)))])))))) := by kernel_rfl
end Go.Proofs.Ytgoedfonmocafaa
namespace Go.Proofs.Ytgoedfonmocafaa
open Go.Lite
set_option maxRecDepth 100000
theorem ok92 (n : Nat) : FnOK C (n + 1) 92 (mkF s92 G92) := by
  refine fn_of hC (sp := sp92) (lp := lp92) trivial (by kernel_rfl) [] (by kernel_rfl) rfl (fun k hk => by cases hk) fun ds r h => ?_
  unfold G92 at h
  split at h
  · rename_i a b c
    rw [← h]
    refine (congrArg T.run (t92 a b c)).trans (go_if (fun e => ?_) fun e => ?_)
    · simp [within, e]
    · simp [within, show ¬ b.I ≤ a.I from e]
  · cases h
theorem ok40 (n : Nat) : FnOK C (n + 1) 40 (mkF s40 G40) := by
  refine fn_of hC (sp := sp40) (lp := lp40) trivial (by kernel_rfl) [] (by kernel_rfl) rfl (fun k hk => by cases hk) fun ds r h => ?_
  unfold G40 G92 at h
  split at h
  · rename_i a b c
    rw [← h]
    refine (congrArg T.run (t40 a b c)).trans (go_if (fun e => ?_) fun e => ?_)
    · simp [within, e]
    · simp [within, show ¬ b.I ≤ a.I from e]
  · cases h
theorem ok122 (n : Nat) : FnOK C (n + 1) 122 (mkF s122 G122) := by
  refine fn_of hC (sp := sp122) (lp := lp122) trivial (by kernel_rfl) [] (by kernel_rfl) rfl (fun k hk => by cases hk) fun ds r h => ?_
  unfold G122 at h
  split at h
  · rename_i a b
    rw [← h]
    refine (congrArg T.run (t122 a b)).trans (go_if (fun e => go_if (fun e2 => ?_) fun e2 => ?_) fun e => ?_)
    · simp [bnd, e2, show (1 : Int) ≤ a.I from e]
    · simp [bnd, e2]
    · simp [bnd, show ¬ (1 : Int) ≤ a.I from e]
  · cases h
theorem ok123 (n : Nat) : FnOK C (n + 2) 123 (mkF s123 G123) := by
  refine fn_of hC (sp := sp123) (lp := lp123) ⟨ok92 n, trivial⟩ (by kernel_rfl) [] (by kernel_rfl) rfl (fun k hk => by cases hk) fun ds r h => ?_
  unfold G123 at h
  split at h
  · exact (congrArg T.run (t123 _)).trans h
  · cases h
theorem ok1130_2 (n : Nat) : LoopSim C (n + 2) 130 (loopOf C.P 130 2) (mkL l1130_2 G1130_2) := by
  refine loop_of hC (sp := sp1130) (lp := lp1130) ⟨ok123 n, trivial⟩ [] (by kernel_rfl) rfl (fun k hk => by cases hk) (by kernel_rfl) (fun ds => ((ds.getD 1 default).I - (ds.getD 2 default).I).toNat) fun ds r h => ?_
  unfold G1130_2 at h
  split at h
  · rename_i l n i
    obtain ⟨hp, h⟩ := need_some h
    rw [yes_iff] at hp
    obtain ⟨h1, h2, h3, h4⟩ := hp
    have hb : big = 4611686018427387904 := rfl
    refine ⟨by rw [fuelC]; simp; omega, ?_⟩
    rw [show roundT C (mkTab sp1130 lp1130) 130 (loopOf C.P 130 2) l1130_2 [l, n, i] = _ from t1130_2 l n i]
    obtain ⟨k, hk⟩ : ∃ k : Nat, i.I = k := ⟨i.I.toNat, by omega⟩
    simp only [run_ite, run_need, run_leaf, hk, h2, Int.toNat_natCast] at h h4 ⊢
    refine first_loop (p := fun j => !pctAt l.L j) (i := k) (len := l.L.length) [D.l l.L, D.i l.L.length, D.i (k + 1 : Nat)] h ?_ ?_
    · simp only [wrap_succ (show k < 9223372036854775807 by omega), ix_def, pctAt]
      grind
    · intro hlt hp hh
      refine ⟨Eq.trans (need_yes (p := _) (t := _) ?_) hh, ?_⟩
      · simp only [I_i, L_l]
        exact ⟨h1, trivial, by omega, by omega⟩
      · show ((l.L.length : Int) - ((k + 1 : Nat) : Int)).toNat < (n.I - i.I).toNat
        omega
  · cases h
theorem ok1130 (n : Nat) : FnOK C (n + 3) 130 (mkF s1130 G1130) := by
  refine fn_of hC (sp := sp1130) (lp := lp1130) ⟨ok123 n, trivial⟩ (by kernel_rfl) [2] (by kernel_rfl) (by kernel_rfl) (fun k hk L hL => by simp at hk; subst hk; cases hL; exact ok1130_2 n) fun ds r h => ?_
  unfold G1130 at h
  split at h
  · rename_i l
    obtain ⟨hp, h⟩ := need_some h
    rw [yes_iff] at hp
    rw [← h]
    refine (congrArg T.run (t1130 l)).trans ?_
    refine (need_yes ⟨hp, by omega, by omega, by omega⟩).trans ?_
    simp only [run_ite, run_leaf, Int.toNat_zero, Nat.sub_zero]
    split
    · rfl
    · rename_i hc
      have : ¬ firstFrom (fun j => !pctAt l.L j) 0 l.L.length ≥ 0 := fun hh => hc (decide_eq_true hh)
      rw [firstFrom_neg (by omega)]
  · cases h
theorem ok1102 (n : Nat) : FnOK C (n + 4) 102 (mkF s1102 G1102) := by
  refine fn_of hC (sp := sp1102) (lp := lp1102) ⟨ok1130 n, ok123 (n + 1), trivial⟩ (by kernel_rfl) [] (by kernel_rfl) rfl (fun k hk => by cases hk) fun ds r h => ?_
  unfold G1102 at h
  split at h
  · rename_i l
    rw [← h]
    refine (congrArg T.run (t1102 l)).trans ?_
    rw [firstFrom_all]
    simp only [Bool.not_not]
  · cases h
theorem ok90_4 (n : Nat) : LoopSim C (n + 4) 90 (loopOf C.P 90 4) (mkL l90_4 G90_4) := by
  refine loop_of hC (sp := sp90) (lp := lp90) ⟨ok122 (n + 3), ok92 (n + 3), ok1102 n, trivial⟩ [] (by kernel_rfl) rfl (fun k hk => by cases hk) (by kernel_rfl) (fun ds => ((ds.getD 1 default).I - (ds.getD 2 default).I).toNat) fun ds r h => ?_
  unfold G90_4 at h
  split at h
  · rename_i q m i lo hi p u
    obtain ⟨hp, h⟩ := need_some h
    rw [yes_iff] at hp
    obtain ⟨h1, h2, h3, h4, h5⟩ := hp
    refine ⟨by rw [fuelC]; simp; omega, ?_⟩
    rw [show roundT C (mkTab sp90 lp90) 90 (loopOf C.P 90 4) l90_4 [q, m, i, lo, hi, p, u] = _ from t90_4 q m i lo hi p u]
    obtain ⟨k, hk⟩ : ∃ k : Nat, i.I = k := ⟨i.I.toNat, by omega⟩
    simp only [run_ite, run_need, run_leaf, hk, h1, h2, Int.toNat_natCast] at h h4 h5 ⊢
    refine all_loop (p := rowSp p.L) (i := k) (len := p.L.length) [D.l p.L, D.i p.L.length, D.i (k + 1 : Nat), D.i lo.I, D.i hi.I, D.l p.L, D.l u.L] h ?_ ?_
    · simp only [rowSp, riseAt, ix_def, Nat.zero_add, Nat.reduceAdd, wrap_succ (show k < 9223372036854775807 by omega), wrap_pred (show k < 9223372036854775807 by omega), toNat_pred]
      grind
    · intro hlt hp hh
      refine ⟨Eq.trans (need_yes (p := _) (t := _) ?_) hh, ?_⟩
      · simp only [I_i, L_l]
        exact ⟨trivial, trivial, by omega, by omega, h5⟩
      · show ((p.L.length : Int) - ((k + 1 : Nat) : Int)).toNat < (m.I - i.I).toNat
        omega
  · cases h
theorem ok90 (n : Nat) : FnOK C (n + 5) 90 (mkF s90 G90) := by
  refine fn_of hC (sp := sp90) (lp := lp90) ⟨ok122 (n + 3), ok92 (n + 3), ok1102 n, trivial⟩ (by kernel_rfl) [4] (by kernel_rfl) (by kernel_rfl) (fun k hk L hL => by simp at hk; subst hk; cases hL; exact ok90_4 n) fun ds r h => ?_
  unfold G90 at h
  split at h
  · rename_i lo hi p u
    rw [← h]
    refine (congrArg T.run (t90 lo hi p u)).trans ?_
    have hb : big = 4611686018427387904 := rfl
    simp only [run_ite, run_need, run_leaf, yes_iff, speedsOk, headSp, Int.toNat_zero, Nat.sub_zero, ix_def]
    by_cases a1 : bnd lo.I hi.I = true
    case neg => simp [a1]
    by_cases a2 : within (p.L.length : Int) 1 30 = true
    case neg => simp [a1, a2]
    have a0 := Lite.within_iff.1 a2
    by_cases a3 : u.L.length = 9
    case neg => simp [a1, a2, a3, show ¬ (u.L.length : Int) = 9 by omega]
    generalize ix (p.L.getD 0 []) 0 = x0
    by_cases a4 : x0 = 5
    case neg => simp [a1, a2, a3, a4, show 0 < p.L.length by omega]
    simp only [a1, a2, a3, a4, hb]
    cases allFrom (rowSp p.L) 0 p.L.length <;> cases allFrom (pctAt u.L) 0 9 <;> simp [show 0 < p.L.length by omega, show (p.L.length : Int) ≤ 30 by omega]
  · cases h
theorem ok9_4 (n : Nat) : LoopSim C (n + 1) 9 (loopOf C.P 9 4) (mkL l9_4 G9_4) := by
  refine loop_of hC (sp := sp9) (lp := lp9) ⟨ok40 n, trivial⟩ [] (by kernel_rfl) rfl (fun k hk => by cases hk) (by kernel_rfl) (fun ds => (((ds.getD 3 default).L.length : Int) - (ds.getD 0 default).I).toNat) fun ds r h => ?_
  unfold G9_4 at h
  split at h
  · rename_i i lo hi p u
    obtain ⟨hp, h⟩ := need_some h
    rw [yes_iff] at hp
    obtain ⟨h3, h4, h5⟩ := hp
    refine ⟨by rw [fuelC]; simp; omega, ?_⟩
    rw [show roundT C (mkTab sp9 lp9) 9 (loopOf C.P 9 4) l9_4 [i, lo, hi, p, u] = _ from t9_4 i lo hi p u]
    obtain ⟨k, hk⟩ : ∃ k : Nat, i.I = k := ⟨i.I.toNat, by omega⟩
    simp only [run_ite, run_need, run_leaf, hk, Int.toNat_natCast] at h h4 ⊢
    refine all_loop (p := rowSp p.L) (i := k) (len := p.L.length) [D.i (k + 1 : Nat), D.i lo.I, D.i hi.I, D.l p.L, D.l u.L] h ?_ ?_
    · simp only [rowSp, bnd, riseAt, ix_def, Nat.zero_add, Nat.reduceAdd, wrap_succ (show k < 9223372036854775807 by omega), wrap_pred (show k < 9223372036854775807 by omega), toNat_pred]
      grind
    · intro hlt hp hh
      refine ⟨Eq.trans (need_yes (p := _) (t := _) ?_) hh, ?_⟩
      · simp only [I_i, L_l]
        exact ⟨by omega, by omega, h5⟩
      · show ((p.L.length : Int) - ((k + 1 : Nat) : Int)).toNat < ((p.L.length : Int) - i.I).toNat
        omega
  · cases h
theorem ok9_10 (n : Nat) : LoopSim C (n + 1) 9 (loopOf C.P 9 10) (mkL l9_10 G9_10) := by
  refine loop_of hC (sp := sp9) (lp := lp9) ⟨ok40 n, trivial⟩ [] (by kernel_rfl) rfl (fun k hk => by cases hk) (by kernel_rfl) (fun ds => (9 - (ds.getD 0 default).I).toNat) fun ds r h => ?_
  unfold G9_10 at h
  split at h
  · rename_i i lo hi p u
    obtain ⟨hp, h⟩ := need_some h
    rw [yes_iff] at hp
    obtain ⟨h3, h4, h5⟩ := hp
    refine ⟨by rw [fuelC]; simp; omega, ?_⟩
    rw [show roundT C (mkTab sp9 lp9) 9 (loopOf C.P 9 10) l9_10 [i, lo, hi, p, u] = _ from t9_10 i lo hi p u]
    obtain ⟨k, hk⟩ : ∃ k : Nat, i.I = k := ⟨i.I.toNat, by omega⟩
    simp only [run_ite, run_need, run_leaf, hk, h5, Int.toNat_natCast] at h h4 ⊢
    refine all_loop (p := pctAt u.L) (i := k) (len := 9) [D.i (k + 1 : Nat), D.i lo.I, D.i hi.I, D.l p.L, D.l u.L] h ?_ ?_
    · simp only [pctAt, ix_def, wrap_succ (show k < 9223372036854775807 by omega)]
      grind
    · intro hlt hp hh
      refine ⟨Eq.trans (need_yes (p := _) (t := _) ?_) hh, ?_⟩
      · simp only [I_i, L_l]
        exact ⟨by omega, by omega, h5⟩
      · show ((9 : Int) - ((k + 1 : Nat) : Int)).toNat < ((9 : Int) - i.I).toNat
        omega
  · cases h
theorem ok9 (n : Nat) : FnOK C (n + 2) 9 (mkF s9 G9) := by
  refine fn_of hC (sp := sp9) (lp := lp9) ⟨ok40 n, trivial⟩ (by kernel_rfl) [4, 10] (by kernel_rfl) (by kernel_rfl) (fun k hk L hL => by simp at hk; rcases hk with hk | hk <;> subst hk <;> cases hL; exact ok9_4 n; exact ok9_10 n) fun ds r h => ?_
  unfold G9 at h
  split at h
  · rename_i lo hi p u
    rw [← h]
    refine (congrArg T.run (t9 lo hi p u)).trans ?_
    simp only [run_ite, run_need, run_leaf, yes_iff, speedsOk, headSp, bnd, Int.toNat_zero, Nat.sub_zero, ix_def]
    by_cases b1 : lo.I < 1
    case pos => simp [b1, show ¬ (1 : Int) ≤ lo.I by omega]
    by_cases b2 : lo.I > hi.I
    case pos => simp [b1, b2, show ¬ lo.I ≤ hi.I by omega]
    by_cases b3 : hi.I > 700
    case pos => simp [b1, b2, b3, show ¬ hi.I ≤ 700 by omega]
    by_cases a2 : within (p.L.length : Int) 1 30 = true
    case neg => simp [b1, b2, b3, a2]
    have a0 := Lite.within_iff.1 a2
    by_cases a3 : u.L.length = 9
    case neg => simp [b1, b2, b3, a2, a3, show ¬ (u.L.length : Int) = 9 by omega]
    generalize ix (p.L.getD 0 []) 0 = x0
    by_cases a4 : x0 = 5
    case neg => simp [b1, b2, b3, a2, a3, a4, show 0 < p.L.length by omega]
    simp only [a2, a3, a4, b1, b2, b3]
    cases allFrom (rowSp p.L) 0 p.L.length <;> cases allFrom (pctAt u.L) 0 9 <;> simp [show 0 < p.L.length by omega, show p.L.length ≤ 30 by omega, show (1 : Int) ≤ lo.I by omega, show lo.I ≤ hi.I by omega, show hi.I ≤ 700 by omega]
  · cases h
theorem ok11_3 (n : Nat) : LoopSim C (n + 1) 11 (loopOf C.P 11 3) (mkL l11_3 G11_3) := by
  refine loop_of hC (sp := sp11) (lp := lp11) trivial [] (by kernel_rfl) rfl (fun k hk => by cases hk) (by kernel_rfl) (fun ds => (((ds.getD 2 default).L.length : Int) - (ds.getD 1 default).I).toNat) fun ds r h => ?_
  unfold G11_3 G19_3 at h
  split at h
  · rename_i m i p c j
    obtain ⟨hp, h⟩ := need_some h
    rw [yes_iff] at hp
    obtain ⟨h1, h2, h3, h4, h5, h6⟩ := hp
    refine ⟨by rw [fuelC]; simp; omega, ?_⟩
    rw [show roundT C (mkTab sp11 lp11) 11 (loopOf C.P 11 3) l11_3 [m, i, p, c, j] = _ from t11_3 m i p c j]
    obtain ⟨k, hk⟩ : ∃ k : Nat, i.I = k := ⟨i.I.toNat, by omega⟩
    rw [hk] at h h4 h6 ⊢
    simp only [run_leaf, Int.toNat_natCast] at h
    by_cases hlt : (k : Int) < p.L.length
    · have hb := lenFrom_bound (l := p.L) 1 k fun y _ hy => (allFrom_iff.1 h2) y (Nat.zero_le _) (by omega)
      simp only [lenFrom] at hb
      have w0 : IntKind.i64.wrap (m.I + ix (p.L.getD k []) 0) = m.I + ix (p.L.getD k []) 0 := wrap_id (by omega) (by omega)
      have w1 : IntKind.i64.wrap ((k : Int) + 1) = ((k + 1 : Nat) : Int) := wrap_succ (by omega)
      refine again_ok (ds' := [D.i (m.I + ix (p.L.getD k []) 0), D.i (k + 1 : Nat), D.l p.L, D.l c.L, D.l j.L]) ?_ ?_ ?_
      · simp only [run_ite, run_need, run_leaf, hlt, decide_true, if_true, Int.toNat_natCast, ix_def, w0, w1, show (0 : Int) ≤ (k : Int) from by omega, and_self]
      · refine (need_yes ⟨h1, h2, by simp only [I_i]; omega, by simp only [I_i, L_l]; omega, by simp only [I_i]; omega, by simp only [I_i]; omega⟩).trans ?_
        rw [← h, show p.L.length - k = (p.L.length - (k + 1)) + 1 by omega]
        simp only [run_leaf, I_i, L_l, Int.toNat_natCast, lenFrom, Int.add_assoc]
      · show ((p.L.length : Int) - ((k + 1 : Nat) : Int)).toNat < ((p.L.length : Int) - i.I).toNat
        omega
    · refine out_ok ?_
      rw [show p.L.length - k = 0 by omega] at h
      simp only [lenFrom, Int.add_zero, Option.some.injEq] at h
      simp only [run_ite, run_leaf, hlt, decide_false, Bool.false_eq_true, if_false, ← h]
  · cases h
theorem ok11 (n : Nat) : FnOK C (n + 2) 11 (mkF s11 G11) := by
  refine fn_of hC (sp := sp11) (lp := lp11) trivial (by kernel_rfl) [3] (by kernel_rfl) (by kernel_rfl) (fun k hk L hL => by simp at hk; subst hk; cases hL; exact ok11_3 n) fun ds r h => ?_
  unfold G11 G19 at h
  split at h
  · rename_i p c j
    obtain ⟨hp, h⟩ := need_some h
    rw [yes_iff] at hp
    rw [← h]
    refine (congrArg T.run (t11 p c j)).trans ?_
    refine (need_yes ⟨hp.1, hp.2, by omega, by omega, by omega, by omega⟩).trans ?_
    simp only [run_leaf, lenR, Int.zero_add, Int.toNat_zero, Nat.sub_zero]
  · cases h
theorem ok8 (n : Nat) : FnOK C (n + 5) 8 (mkF s8 G8) := by
  refine fn_of hC (sp := sp8) (lp := lp8) ⟨ok39 n, ok11 (n + 2), trivial⟩ (by kernel_rfl) [] (by kernel_rfl) rfl (fun k hk => by cases hk) fun ds r h => ?_
  unfold G8 at h
  split at h
  · rename_i p c j
    rw [← h]
    refine (congrArg T.run (t8 p c j)).trans (go_ite (fun e => ?_) fun e => ?_)
    · have hm : p.L.length ≤ 2000 ∧ allFrom (pieceAt p.L) 0 p.L.length = true := by
        have e' := e
        unfold roadOk sizesOk at e'
        simp only [Bool.and_eq_true, decide_eq_true_eq, Lite.within_iff] at e'
        exact ⟨by omega, e'.1.1.1.2⟩
      refine go_yes hm ?_
      rw [e, Bool.true_and]
    · rw [e, Bool.false_and]
  · cases h
theorem sp_of {lo hi : Int} {r u : List (List D)} (h : spP lo hi r u) : ((1 ≤ lo ∧ lo ≤ hi) ∧ hi ≤ 700) ∧ (1 ≤ r.length ∧ r.length ≤ 30) ∧ u.length = 9 ∧ ix (r.getD 0 []) 0 = 5 ∧
    (∀ k, k < r.length → 1 ≤ ix (r.getD k []) 1 ∧ ix (r.getD k []) 1 ≤ ix (r.getD k []) 2 ∧ ix (r.getD k []) 2 ≤ 700) ∧ ∀ k, k < 9 → 1 ≤ ix (u.getD k []) 0 ∧ ix (u.getD k []) 0 ≤ 100 := by
  unfold spP speedsOk headSp bnd at h
  simp only [Bool.and_eq_true, decide_eq_true_eq, Lite.within_iff, allFrom_iff] at h
  obtain ⟨⟨⟨h1, h2, h3⟩, h4, h5, h6⟩, h7, h8⟩ := h
  refine ⟨⟨⟨h1, h2⟩, h3⟩, by omega, h5, h6, fun k hk => ?_, fun k hk => ?_⟩
  · have := h7 k (Nat.zero_le _) (by omega)
    simp only [rowSp, bnd, Bool.and_eq_true, decide_eq_true_eq] at this
    exact ⟨this.1.1, this.1.2.1, this.1.2.2⟩
  · have := h8 k (Nat.zero_le _) (by omega)
    simp only [pctAt, Lite.within_iff] at this
    exact this
theorem pc_of {a b c d e : Int} (h : pcP a b c d e) : (1 ≤ a ∧ a ≤ 5000) ∧ (1 ≤ e ∧ e ≤ 9) ∧ (b ≠ 0 → 5 ≤ c) := by
  unfold pcP pieceP at h
  simp only [Bool.and_eq_true, Lite.within_iff] at h
  obtain ⟨⟨⟨⟨h1, h2⟩, h3⟩, h4⟩, h5⟩ := h
  refine ⟨h1, h4, fun hb => ?_⟩
  rw [if_neg hb, Lite.within_iff] at h5
  exact h5.1
theorem rowI_le (r : List (List D)) (c : Int) : ∀ k, rowI r c k ≤ k
  | 0 => Nat.le_refl _
  | k + 1 => by
    simp only [rowI]
    split
    · exact Nat.le_trans (rowI_le r c k) (Nat.le_succ _)
    · exact Nat.le_refl _
theorem row_rng {lo hi : Int} {r u : List (List D)} (h : spP lo hi r u) (b c : Int) : 1 ≤ rowLo lo r b c ∧ rowLo lo r b c ≤ rowHi hi r b c ∧ rowHi hi r b c ≤ 700 := by
  obtain ⟨h1, h2, -, -, h3, -⟩ := sp_of h
  unfold rowLo rowHi
  by_cases hb : b = 0
  · rw [if_pos hb, if_pos hb]; omega
  · rw [if_neg hb, if_neg hb]
    have := rowI_le r c (r.length - 1)
    exact h3 _ (by omega)
theorem pct_rng {lo hi : Int} {r u : List (List D)} (h : spP lo hi r u) {e : Int} (he : 1 ≤ e ∧ e ≤ 9) : 1 ≤ pctOf u e ∧ pctOf u e ≤ 100 := (sp_of h).2.2.2.2.2 _ (by omega)
theorem ok142_4 (n : Nat) : LoopSim C n 142 (loopOf C.P 142 4) (mkL l142_4 G142_4) := by
  refine loop_ofK hC (sp := sp142) (lp := lp142) (sw := sw142) trivial trivial 0 [] (by kernel_rfl) rfl (fun k hk => by cases hk) (by kernel_rfl) (fun ds => (ds.getD 0 default).I.toNat) fun ds r h => ?_
  unfold G142_4 at h
  split at h
  · rename_i i lo hi p u a b c d e
    obtain ⟨hp, h⟩ := need_some h
    rw [yes_iff] at hp
    obtain ⟨h1, h2, h3, h4⟩ := hp
    refine ⟨by rw [fuelC]; simp; omega, ?_⟩
    rw [show roundTK C (mkTab sp142 lp142 sw142) 142 (loopOf C.P 142 4) 0 l142_4 [i, lo, hi, p, u, a, b, c, d, e] = _ from t142_4 i lo hi p u a b c d e]
    obtain ⟨k, hk⟩ : ∃ k : Nat, i.I = k := ⟨i.I.toNat, by omega⟩
    simp only [hk, Int.toNat_natCast, ix_def] at h h2 h3 ⊢
    cases k with
    | zero =>
      refine rd_dec (by omega) (rd_neg (by omega) ?_)
      exact rd_out h
    | succ k =>
      simp only [rowI] at h
      refine rd_dec (by omega) (rd_if (fun hc => ?_) fun hc => ?_)
      · rw [if_pos hc] at h
        have w1 : IntKind.i64.wrap (((k + 1 : Nat) : Int) - 1) = (k : Int) := by rw [show ((k + 1 : Nat) : Int) - 1 = (k : Int) by omega]; exact wrap_id (by omega) (by omega)
        rw [w1]
        refine rd_again ((need_yes ⟨h1, by simp only [I_i]; omega, by simp only [I_i, L_l]; omega, h4⟩).trans ?_) (by
          show ((k : Nat) : Int).toNat < i.I.toNat
          omega)
        simp only [I_i, L_l, Int.toNat_natCast]
        exact h
      · rw [if_neg hc] at h
        exact rd_out h
  · cases h
theorem ok142 (n : Nat) : FnOK C (n + 1) 142 (mkF s142 G142) := by
  refine fn_ofS hC (sp := sp142) (lp := lp142) (sw := sw142) trivial trivial (by kernel_rfl) [4] (by kernel_rfl) (by kernel_rfl) (fun k hk L hL => by simp at hk; subst hk; cases hL; exact ok142_4 n) fun ds rr h => ?_
  unfold G142 at h
  split at h
  · rename_i lo hi r u a b c d e
    obtain ⟨hp, h⟩ := need_some h
    rw [yes_iff] at hp
    obtain ⟨hs, hq⟩ := hp
    obtain ⟨-, s1, -, s2, -, -⟩ := sp_of hs
    obtain ⟨-, -, q1⟩ := pc_of hq
    refine (congrArg T.run (t142 lo hi r u a b c d e)).trans ?_
    unfold rowLo rowHi at h
    by_cases hb : b.I = 0
    · rw [if_pos hb, if_pos hb] at h
      exact go_true (by simpa using hb) h
    · rw [if_neg hb, if_neg hb] at h
      have hle := rowI_le r.L c.I (r.L.length - 1)
      have w1 : IntKind.i64.wrap ((r.L.length : Int) - 1) = ((r.L.length - 1 : Nat) : Int) := by rw [show (r.L.length : Int) - 1 = ((r.L.length - 1 : Nat) : Int) by omega]; exact wrap_id (by omega) (by omega)
      simp only [w1, Int.toNat_natCast, ix_def, Nat.reduceAdd]
      refine go_false (by simpa using hb) (go_yes ⟨s1.2, by omega, by omega, by rw [s2]; exact q1 hb⟩ (go_dec (by omega) (go_dec (by omega) ?_)))
      exact h
  · cases h
theorem tdiv_nn {a b : Int} (ha : 0 ≤ a) (hb : 0 < b) : a.tdiv b = a / b ∧ 0 ≤ a / b ∧ a / b ≤ a := ⟨Int.tdiv_eq_ediv_of_nonneg ha, Int.ediv_nonneg ha (by omega), Int.ediv_le_self _ ha⟩
theorem ok125 (n : Nat) : FnOK C (n + 2) 125 (mkF s125 G125) := by
  refine fn_ofS hC (sp := sp125) (lp := lp125) (sw := sw125) ⟨ok142 n, trivial⟩ trivial (by kernel_rfl) [] (by kernel_rfl) rfl (fun k hk => by cases hk) fun ds rr h => ?_
  unfold G125 at h
  split at h
  · rename_i lo hi r u a b c d e
    obtain ⟨hp, h⟩ := need_some h
    rw [yes_iff] at hp
    obtain ⟨hs, hq⟩ := id hp
    obtain ⟨-, -, s3, -, -, -⟩ := sp_of hs
    obtain ⟨-, q1, -⟩ := pc_of hq
    have hr := row_rng hs b.I c.I
    have hpc := pct_rng hs q1
    refine (congrArg T.run (t125 lo hi r u a b c d e)).trans ?_
    have w1 : IntKind.i64.wrap (e.I - 1) = e.I - 1 := wrap_id (by omega) (by omega)
    have hf : ix (u.L.getD (e.I - 1).toNat []) 0 = pctOf u.L e.I := rfl
    have m1 : 0 ≤ rowHi hi.I r.L b.I c.I * pctOf u.L e.I := Int.mul_nonneg (by omega) (by omega)
    have m2 : rowHi hi.I r.L b.I c.I * pctOf u.L e.I ≤ 700 * 100 := Int.mul_le_mul (by omega) (by omega) (by omega) (by omega)
    have m3 : 1 * 1 ≤ rowHi hi.I r.L b.I c.I * pctOf u.L e.I := Int.mul_le_mul (by omega) (by omega) (by omega) (by omega)
    simp only [w1, ix_def, hf]
    unfold quickV at h
    generalize rowHi hi.I r.L b.I c.I * pctOf u.L e.I = M at m1 m2 m3 h ⊢
    have w2 : IntKind.i64.wrap M = M := wrap_id (by omega) (by omega)
    have w3 : IntKind.i64.wrap (M + 99) = M + 99 := wrap_id (by omega) (by omega)
    obtain ⟨d1, d2, d3⟩ := tdiv_nn (a := M + 99) (b := 100) (by omega) (by omega)
    have w4 : IntKind.i64.wrap ((M + 99).tdiv 100) = (M + 99).tdiv 100 := wrap_id (by omega) (by omega)
    have hpos : 1 ≤ (M + 99).tdiv 100 := by omega
    obtain ⟨d4, d5, d6⟩ := tdiv_nn (a := 10000000) (b := (M + 99).tdiv 100) (by omega) (by omega)
    have w5 : IntKind.i64.wrap ((10000000 : Int).tdiv ((M + 99).tdiv 100)) = (10000000 : Int).tdiv ((M + 99).tdiv 100) := wrap_id (by omega) (by omega)
    simp only [w2, w3, w4, w5]
    refine go_yes hp (go_dec (by omega) (go_need rfl (go_need ?_ h)))
    simp only [Bool.not_eq_true', beq_eq_false_iff_ne, ne_eq]
    omega
  · cases h
theorem slow_rng {lo hi : Int} {r u : List (List D)} (h : spP lo hi r u) {e : Int} (he : 1 ≤ e ∧ e ≤ 9) (b c : Int) : 1 ≤ slowL lo r u b c e ∧ slowL lo r u b c e ≤ 700 := by
  have hr := row_rng h b c
  have hpc := pct_rng h he
  have m1 : 0 ≤ rowLo lo r b c * pctOf u e := Int.mul_nonneg (by omega) (by omega)
  have m2 : rowLo lo r b c * pctOf u e ≤ 700 * 100 := Int.mul_le_mul (by omega) (by omega) (by omega) (by omega)
  unfold slowL
  generalize rowLo lo r b c * pctOf u e = M at m1 m2 ⊢
  obtain ⟨d1, d2, d3⟩ := tdiv_nn (a := M) (b := 100) (by omega) (by omega)
  unfold maxI
  split <;> omega
theorem ok126 (n : Nat) : FnOK C (n + 2) 126 (mkF s126 G126) := by
  refine fn_ofS hC (sp := sp126) (lp := lp126) (sw := sw126) ⟨ok142 n, trivial⟩ trivial (by kernel_rfl) [] (by kernel_rfl) rfl (fun k hk => by cases hk) fun ds rr h => ?_
  unfold G126 at h
  split at h
  · rename_i lo hi r u a b c d e
    obtain ⟨hp, h⟩ := need_some h
    rw [yes_iff] at hp
    obtain ⟨hs, hq⟩ := id hp
    obtain ⟨-, -, s3, -, -, -⟩ := sp_of hs
    obtain ⟨-, q1, -⟩ := pc_of hq
    have hr := row_rng hs b.I c.I
    have hpc := pct_rng hs q1
    have hsl := slow_rng hs q1 b.I c.I
    refine (congrArg T.run (t126 lo hi r u a b c d e)).trans ?_
    have w1 : IntKind.i64.wrap (e.I - 1) = e.I - 1 := wrap_id (by omega) (by omega)
    have hf : ix (u.L.getD (e.I - 1).toNat []) 0 = pctOf u.L e.I := rfl
    have m1 : 0 ≤ rowLo lo.I r.L b.I c.I * pctOf u.L e.I := Int.mul_nonneg (by omega) (by omega)
    have m2 : rowLo lo.I r.L b.I c.I * pctOf u.L e.I ≤ 700 * 100 := Int.mul_le_mul (by omega) (by omega) (by omega) (by omega)
    simp only [w1, ix_def, hf]
    have w2 : IntKind.i64.wrap (rowLo lo.I r.L b.I c.I * pctOf u.L e.I) = rowLo lo.I r.L b.I c.I * pctOf u.L e.I := wrap_id (by omega) (by omega)
    obtain ⟨d1, d2, d3⟩ := tdiv_nn (a := rowLo lo.I r.L b.I c.I * pctOf u.L e.I) (b := 100) (by omega) (by omega)
    have w4 : IntKind.i64.wrap ((rowLo lo.I r.L b.I c.I * pctOf u.L e.I).tdiv 100) = (rowLo lo.I r.L b.I c.I * pctOf u.L e.I).tdiv 100 := wrap_id (by omega) (by omega)
    have hL : maxI 1 ((rowLo lo.I r.L b.I c.I * pctOf u.L e.I).tdiv 100) = slowL lo.I r.L u.L b.I c.I e.I := rfl
    simp only [w2, w4, hL]
    unfold slowV at h
    generalize slowL lo.I r.L u.L b.I c.I e.I = L at hsl h ⊢
    have w5 : IntKind.i64.wrap (10000000 + L) = 10000000 + L := wrap_id (by omega) (by omega)
    have w6 : IntKind.i64.wrap (10000000 + L - 1) = 10000000 + L - 1 := wrap_id (by omega) (by omega)
    obtain ⟨d4, d5, d6⟩ := tdiv_nn (a := 10000000 + L - 1) (b := L) (by omega) (by omega)
    have w7 : IntKind.i64.wrap ((10000000 + L - 1).tdiv L) = (10000000 + L - 1).tdiv L := wrap_id (by omega) (by omega)
    simp only [w5, w6, w7]
    refine go_yes hp (go_dec (by omega) (go_need rfl (go_need ?_ h)))
    simp only [Bool.not_eq_true', beq_eq_false_iff_ne, ne_eq]
    omega
  · cases h
theorem quick_slow {lo hi : Int} {r u : List (List D)} (h : spP lo hi r u) {e : Int} (he : 1 ≤ e ∧ e ≤ 9) (b c : Int) : 0 ≤ quickV hi r u b c e ∧ quickV hi r u b c e ≤ slowV lo r u b c e ∧ slowV lo r u b c e ≤ 10000700 := by
  have hr := row_rng h b c
  have hpc := pct_rng h he
  have hsl := slow_rng h he b c
  have m1 : 0 ≤ rowHi hi r b c * pctOf u e := Int.mul_nonneg (by omega) (by omega)
  have m3 : 1 * 1 ≤ rowHi hi r b c * pctOf u e := Int.mul_le_mul (by omega) (by omega) (by omega) (by omega)
  have m4 : 0 ≤ rowLo lo r b c * pctOf u e := Int.mul_nonneg (by omega) (by omega)
  have m5 : rowLo lo r b c * pctOf u e ≤ rowHi hi r b c * pctOf u e := Int.mul_le_mul_of_nonneg_right hr.2.1 (by omega)
  have hle : slowL lo r u b c e ≤ (rowHi hi r b c * pctOf u e + 99).tdiv 100 := by
    unfold slowL
    generalize rowLo lo r b c * pctOf u e = m at m4 m5 ⊢
    generalize rowHi hi r b c * pctOf u e = M at m1 m3 m5 ⊢
    have e1 := (tdiv_nn (a := m) (b := 100) (by omega) (by omega)).1
    have e2 := (tdiv_nn (a := M + 99) (b := 100) (by omega) (by omega)).1
    unfold maxI
    split <;> omega
  unfold quickV slowV
  generalize slowL lo r u b c e = L at hsl hle ⊢
  generalize (rowHi hi r b c * pctOf u e + 99).tdiv 100 = Q at hle ⊢
  obtain ⟨e1, e2, e3⟩ := tdiv_nn (a := 10000000) (b := Q) (by omega) (by omega)
  obtain ⟨e4, e5, e6⟩ := tdiv_nn (a := 10000000 + L - 1) (b := L) (by omega) (by omega)
  refine ⟨by omega, ?_, by omega⟩
  rw [e1, e4]
  refine Int.le_ediv_of_mul_le (by omega) ?_
  have h1 : 10000000 / Q * Q ≤ 10000000 := Int.ediv_mul_le _ (by omega)
  have h2 : 10000000 / Q * L ≤ 10000000 / Q * Q := Int.mul_le_mul_of_nonneg_left hle e2
  omega
theorem ok93 (n : Nat) : FnOK C (n + 1) 93 (mkF s93 G93) := by
  refine fn_ofS hC (sp := sp93) (lp := lp93) (sw := sw93) trivial trivial (by kernel_rfl) [] (by kernel_rfl) rfl (fun k hk => by cases hk) fun ds rr h => ?_
  unfold G93 at h
  split at h
  · rename_i s
    obtain ⟨hp, h⟩ := need_some h
    rw [yes_iff] at hp
    refine (congrArg T.run (t93 s)).trans ?_
    rw [wrap_id (by omega) (by omega)]
    exact h
  · cases h
theorem ok44 (n : Nat) : FnOK C (n + 2) 44 (mkF s44 G44) := by
  refine fn_ofS hC (sp := sp44) (lp := lp44) (sw := sw44) ⟨ok93 n, ok92 n, trivial⟩ trivial (by kernel_rfl) [] (by kernel_rfl) rfl (fun k hk => by cases hk) fun ds rr h => ?_
  unfold G44 at h
  split at h
  · rename_i s p
    obtain ⟨hp, h⟩ := need_some h
    rw [yes_iff] at hp
    exact (congrArg T.run (t44 s p)).trans (go_yes hp h)
  · cases h
theorem ok45 (n : Nat) : FnOK C (n + 1) 45 (mkF s45 G45) := by
  refine fn_ofS hC (sp := sp45) (lp := lp45) (sw := sw45) trivial trivial (by kernel_rfl) [] (by kernel_rfl) rfl (fun k hk => by cases hk) fun ds rr h => ?_
  unfold G45 at h
  split at h
  · rename_i s d a b
    obtain ⟨hp, h⟩ := need_some h
    rw [yes_iff] at hp
    obtain ⟨hs, hd, ha, hb⟩ := hp
    refine (congrArg T.run (t45 s d a b)).trans ?_
    have h1 := hs a.I.toNat
    have h2 := hs b.I.toNat
    rcases hd with hd | hd
    · rw [hd] at h ⊢
      refine go_dec (by omega) (go_pos rfl (go_dec (by omega) (go_pos rfl ?_)))
      simp only [ix_def]
      rw [wrap_id (by omega) (by omega)]
      exact h
    · rw [hd] at h ⊢
      refine go_dec (by omega) (go_neg (by omega) (go_dec (by omega) (go_dec (by omega) (go_neg (by omega) (go_dec (by omega) ?_)))))
      simp only [ix_def, Nat.reduceAdd]
      rw [wrap_id (by omega) (by omega)]
      exact h
  · cases h
end Go.Proofs.Ytgoedfonmocafaa
namespace Go.Proofs.Ytgoedfonmocafaa
open Go.Lite
def s124 : SigI := ⟨[.yl, .ptr 0 4 0 0, .ptr 1 3 0 0], [.box [.k (.int .i64), .k (.int .i64), .k (.ro [.int .i64, .int .i64, .int .i64]), .k (.ro [.int .i64])], .box [.k (.ro [.int .i64, .int .i64, .int .i64, .int .i64, .int .i64]), .k (.ro [.int .i64, .int .i64]), .k (.ro [.int .i64, .int .i64, .int .i64])]]⟩
def y124 : YS := mkY [.agg [.k (.int .i64), .k (.int .i64)]] [] false
def l124_2 : LSig := mkLS [0, 4, 16, 17, 18] [(43, [(0, .yl), (4, .ptr 2 2 0 0), (16, .k (.ro [.int .i64, .int .i64, .int .i64, .int .i64, .int .i64])), (17, .k (.int .i64)), (18, .k (.int .i64))], [.box [.k (.int .i64), .k (.int .i64), .k (.ro [.int .i64, .int .i64, .int .i64]), .k (.ro [.int .i64])], .box [.k (.ro [.int .i64, .int .i64, .int .i64, .int .i64, .int .i64]), .k (.ro [.int .i64, .int .i64]), .k (.ro [.int .i64, .int .i64, .int .i64])], .box [.fn 125 [.agg [.k (.int .i64), .k (.int .i64), .k (.ro [.int .i64, .int .i64, .int .i64]), .k (.ro [.int .i64])]] [], .fn 126 [.agg [.k (.int .i64), .k (.int .i64), .k (.ro [.int .i64, .int .i64, .int .i64]), .k (.ro [.int .i64])]] []]])] [(.exit 0, [], [(43, [], [.box [.k (.int .i64), .k (.int .i64), .k (.ro [.int .i64, .int .i64, .int .i64]), .k (.ro [.int .i64])], .box [.k (.ro [.int .i64, .int .i64, .int .i64, .int .i64, .int .i64]), .k (.ro [.int .i64, .int .i64]), .k (.ro [.int .i64, .int .i64, .int .i64])]])]), (.ret, [], [(43, [], [.box [.k (.int .i64), .k (.int .i64), .k (.ro [.int .i64, .int .i64, .int .i64]), .k (.ro [.int .i64])], .box [.k (.ro [.int .i64, .int .i64, .int .i64, .int .i64, .int .i64]), .k (.ro [.int .i64, .int .i64]), .k (.ro [.int .i64, .int .i64, .int .i64])]])])]
def l124_6 : LSig := mkLS [0, 4, 6, 7, 16, 17, 18, 22, 23] [(43, [(0, .yl), (4, .ptr 2 2 0 0), (6, .ptr 3 5 0 0), (7, .ptr 4 2 0 0), (16, .k (.ro [.int .i64, .int .i64, .int .i64, .int .i64, .int .i64])), (17, .k (.int .i64)), (18, .k (.int .i64)), (22, .agg [.fn 125 [.agg [.k (.int .i64), .k (.int .i64), .k (.ro [.int .i64, .int .i64, .int .i64]), .k (.ro [.int .i64])]] [], .fn 126 [.agg [.k (.int .i64), .k (.int .i64), .k (.ro [.int .i64, .int .i64, .int .i64]), .k (.ro [.int .i64])]] []]), (23, .k (.int .i64))], [.box [.k (.int .i64), .k (.int .i64), .k (.ro [.int .i64, .int .i64, .int .i64]), .k (.ro [.int .i64])], .box [.k (.ro [.int .i64, .int .i64, .int .i64, .int .i64, .int .i64]), .k (.ro [.int .i64, .int .i64]), .k (.ro [.int .i64, .int .i64, .int .i64])], .box [.fn 125 [.agg [.k (.int .i64), .k (.int .i64), .k (.ro [.int .i64, .int .i64, .int .i64]), .k (.ro [.int .i64])]] [], .fn 126 [.agg [.k (.int .i64), .k (.int .i64), .k (.ro [.int .i64, .int .i64, .int .i64]), .k (.ro [.int .i64])]] []], .box [.k (.int .i64), .k (.int .i64), .k (.int .i64), .k (.int .i64), .k (.int .i64)], .box [.k (.int .i64), .k (.int .i64)]])] [(.exit 2, [0, 4, 6, 7, 16, 17, 18], [(43, [(0, .yl), (4, .ptr 2 2 0 0), (6, .ptr 3 5 0 0), (7, .ptr 4 2 0 0), (16, .k (.ro [.int .i64, .int .i64, .int .i64, .int .i64, .int .i64])), (17, .k (.int .i64)), (18, .k (.int .i64))], [.box [.k (.int .i64), .k (.int .i64), .k (.ro [.int .i64, .int .i64, .int .i64]), .k (.ro [.int .i64])], .box [.k (.ro [.int .i64, .int .i64, .int .i64, .int .i64, .int .i64]), .k (.ro [.int .i64, .int .i64]), .k (.ro [.int .i64, .int .i64, .int .i64])], .box [.fn 125 [.agg [.k (.int .i64), .k (.int .i64), .k (.ro [.int .i64, .int .i64, .int .i64]), .k (.ro [.int .i64])]] [], .fn 126 [.agg [.k (.int .i64), .k (.int .i64), .k (.ro [.int .i64, .int .i64, .int .i64]), .k (.ro [.int .i64])]] []], .box [.k (.int .i64), .k (.int .i64), .k (.int .i64), .k (.int .i64), .k (.int .i64)], .box [.k (.int .i64), .k (.int .i64)]])])]
def l124_11 : LSig := mkLS [0, 4, 7, 16, 17, 18, 34, 35] [(43, [(0, .yl), (4, .ptr 2 2 0 0), (7, .ptr 3 2 0 0), (16, .k (.ro [.int .i64, .int .i64, .int .i64, .int .i64, .int .i64])), (17, .k (.int .i64)), (18, .k (.int .i64)), (34, .k (.int .i64)), (35, .k (.int .i64))], [.box [.k (.int .i64), .k (.int .i64), .k (.ro [.int .i64, .int .i64, .int .i64]), .k (.ro [.int .i64])], .box [.k (.ro [.int .i64, .int .i64, .int .i64, .int .i64, .int .i64]), .k (.ro [.int .i64, .int .i64]), .k (.ro [.int .i64, .int .i64, .int .i64])], .box [.fn 125 [.agg [.k (.int .i64), .k (.int .i64), .k (.ro [.int .i64, .int .i64, .int .i64]), .k (.ro [.int .i64])]] [], .fn 126 [.agg [.k (.int .i64), .k (.int .i64), .k (.ro [.int .i64, .int .i64, .int .i64]), .k (.ro [.int .i64])]] []], .box [.k (.int .i64), .k (.int .i64)]])] [(.ret, [], [(43, [], [.box [.k (.int .i64), .k (.int .i64), .k (.ro [.int .i64, .int .i64, .int .i64]), .k (.ro [.int .i64])], .box [.k (.ro [.int .i64, .int .i64, .int .i64, .int .i64, .int .i64]), .k (.ro [.int .i64, .int .i64]), .k (.ro [.int .i64, .int .i64, .int .i64])]])]), (.exit 4, [0, 4, 16, 17, 18], [(43, [(0, .yl), (4, .ptr 2 2 0 0), (16, .k (.ro [.int .i64, .int .i64, .int .i64, .int .i64, .int .i64])), (17, .k (.int .i64)), (18, .k (.int .i64))], [.box [.k (.int .i64), .k (.int .i64), .k (.ro [.int .i64, .int .i64, .int .i64]), .k (.ro [.int .i64])], .box [.k (.ro [.int .i64, .int .i64, .int .i64, .int .i64, .int .i64]), .k (.ro [.int .i64, .int .i64]), .k (.ro [.int .i64, .int .i64, .int .i64])], .box [.fn 125 [.agg [.k (.int .i64), .k (.int .i64), .k (.ro [.int .i64, .int .i64, .int .i64]), .k (.ro [.int .i64])]] [], .fn 126 [.agg [.k (.int .i64), .k (.int .i64), .k (.ro [.int .i64, .int .i64, .int .i64]), .k (.ro [.int .i64])]] []]])])]
def s91 : SigW := ⟨[.agg [.k (.int .i64), .k (.int .i64), .k (.ro [.int .i64, .int .i64, .int .i64]), .k (.ro [.int .i64])], .agg [.k (.ro [.int .i64, .int .i64, .int .i64, .int .i64, .int .i64]), .k (.ro [.int .i64, .int .i64]), .k (.ro [.int .i64, .int .i64, .int .i64])]], [], [(.fn 124 [] [.ptr 0 4 0 0, .ptr 1 3 0 0], [.box [.k (.int .i64), .k (.int .i64), .k (.ro [.int .i64, .int .i64, .int .i64]), .k (.ro [.int .i64])], .box [.k (.ro [.int .i64, .int .i64, .int .i64, .int .i64, .int .i64]), .k (.ro [.int .i64, .int .i64]), .k (.ro [.int .i64, .int .i64, .int .i64])]])]⟩
def s41 : Sig := ⟨[.agg [.k (.ro [.int .i64, .int .i64, .int .i64, .int .i64, .int .i64]), .k (.ro [.int .i64, .int .i64]), .k (.ro [.int .i64, .int .i64, .int .i64])]], [(.tup [.k (.int .i64), .k (.int .i64)], [])]⟩
def s43 : Sig := ⟨[.agg [.k (.ro [.int .i64, .int .i64, .int .i64, .int .i64, .int .i64]), .k (.ro [.int .i64, .int .i64]), .k (.ro [.int .i64, .int .i64, .int .i64])], .agg [.k (.int .i64), .k (.int .i64), .k (.ro [.int .i64, .int .i64, .int .i64]), .k (.ro [.int .i64])]], [(.tup [.nilp, .k .bool], []), (.tup [.eptr [.any, .any, .any, .k (.ro [.int .i64, .int .i64])], .k .bool], [])]⟩
def h43_8 : List Shp := [mkShp (69, [(4, .nilp), (5, .k .bool), (6, .k (.int .i64)), (8, .ptr 0 1 0 0), (9, .ptr 1 2 0 0), (32, .fn 124 [] [.any, .any])], [.box [.ptr 2 4 0 0], .box [.k (.int .i64), .k (.int .i64)], .box [.k (.ro [.int .i64, .int .i64, .int .i64, .int .i64, .int .i64]), .k (.ro [.int .i64, .int .i64]), .k (.ro [.int .i64, .int .i64, .int .i64]), .sl 3 2], .row [.int .i64, .int .i64]])]
def s12 : Sig := ⟨[.agg [.k (.ro [.int .i64, .int .i64, .int .i64, .int .i64, .int .i64]), .k (.ro [.int .i64, .int .i64]), .k (.ro [.int .i64, .int .i64, .int .i64])], .agg [.k (.int .i64), .k (.int .i64), .k (.ro [.int .i64, .int .i64, .int .i64]), .k (.ro [.int .i64])], .k (.int .i64), .k (.int .i64)], [(.tup [.k (.int .i64), .k (.int .i64), .k (.int .i64)], [])]⟩
end Go.Proofs.Ytgoedfonmocafaa
namespace Go.Proofs.Ytgoedfonmocafaa
open Go.Lite
noncomputable section
def cellT (hi : Int) (r u : List (List D)) (lo : Int) (r' u' : List (List D)) (x : List D) : List D := [.i (quickV hi r u (ix x 1) (ix x 2) (ix x 4)), .i (slowV lo r' u' (ix x 1) (ix x 2) (ix x 4))]
def metsT (hi : Int) (r u : List (List D)) (lo : Int) (r' u' : List (List D)) (p : List (List D)) : Nat → Nat → List (List D)
  | _, 0 => []
  | i, k + 1 => List.replicate (ix (p.getD i []) 0).toNat (cellT hi r u lo r' u' (p.getD i [])) ++ metsT hi r u lo r' u' p (i + 1) k
def mets (lo hi : Int) (r u p : List (List D)) : List (List D) := metsT hi r u lo r u p 0 p.length
def G124 (ds : List D) : T (List (List D)) := match ds with
  | [lo, hi, r, u, p, _, _] => .need (yes (spP lo.I hi.I r.L u.L ∧ manyP p.L)) (.leaf (mets lo.I hi.I r.L u.L p.L))
  | _ => .fail
def G124_2 (q : Nat) (ds : List D) : T (Ex × List D) := match ds with
  | [g, p', n, i, lo, hi, r, u, p, c, j, y1, y2, y3, y4, y5, y6, y7, y8] => .need (yes (p'.L = p.L ∧ manyP p.L ∧ n.I = p.L.length ∧ 0 ≤ i.I ∧ i.I ≤ n.I ∧ spP y1.I y2.I y3.L y4.L ∧ spP y5.I y6.I y7.L y8.L ∧ g.L.length ≤ q))
      (.ite (decide (q < g.L.length + (metsT y2.I y3.L y4.L y5.I y7.L y8.L p.L i.I.toNat (p.L.length - i.I.toNat)).length))
        (.leaf (.ret, [.l (g.L ++ (metsT y2.I y3.L y4.L y5.I y7.L y8.L p.L i.I.toNat (p.L.length - i.I.toNat)).take (q + 1 - g.L.length)), .i lo.I, .i hi.I, .l r.L, .l u.L, .l p.L, .l c.L, .l j.L]))
        (.leaf (.exit 0, [.l (g.L ++ metsT y2.I y3.L y4.L y5.I y7.L y8.L p.L i.I.toNat (p.L.length - i.I.toNat)), .i lo.I, .i hi.I, .l r.L, .l u.L, .l p.L, .l c.L, .l j.L])))
  | _ => .fail
def G124_6 (_ : Nat) (ds : List D) : T (Ex × List D) := match ds with
  | g :: p' :: n :: i :: x1 :: x2 :: x3 :: x4 :: x5 :: x6 :: x7 :: x8 :: [k, lo, hi, r, u, p, c, j, y1, y2, y3, y4, y5, y6, y7, y8, a, b, c', d, e, m0, m1] => .need (yes (spP x1.I x2.I x3.L x4.L ∧ spP x5.I x6.I x7.L x8.L ∧ pcP a.I b.I c'.I d.I e.I ∧
        (k.I = 0 ∨ k.I = 1 ∧ m0.I = quickV x2.I x3.L x4.L b.I c'.I e.I ∨ k.I = 2 ∧ m0.I = quickV x2.I x3.L x4.L b.I c'.I e.I ∧ m1.I = slowV x5.I x7.L x8.L b.I c'.I e.I)))
      (.leaf (.exit 2, [.l g.L, .l p'.L, .i n.I, .i i.I, .i lo.I, .i hi.I, .l r.L, .l u.L, .l p.L, .l c.L, .l j.L, .i y1.I, .i y2.I, .l y3.L, .l y4.L, .i y5.I, .i y6.I, .l y7.L, .l y8.L, .i a.I, .i b.I, .i c'.I, .i d.I, .i e.I,
        .i (quickV x2.I x3.L x4.L b.I c'.I e.I), .i (slowV x5.I x7.L x8.L b.I c'.I e.I)]))
  | _ => .fail
def G124_11 (q : Nat) (ds : List D) : T (Ex × List D) := match ds with
  | [g, p', n, i, l, k, lo, hi, r, u, p, c, j, y1, y2, y3, y4, y5, y6, y7, y8, m0, m1] => .need (yes (0 ≤ k.I ∧ k.I ≤ l.I ∧ l.I ≤ 5000 ∧ g.L.length ≤ q))
      (.ite (decide (q < g.L.length + (l.I - k.I).toNat))
        (.leaf (.ret, [.l (g.L ++ (List.replicate (l.I - k.I).toNat [.i m0.I, .i m1.I]).take (q + 1 - g.L.length)), .i lo.I, .i hi.I, .l r.L, .l u.L, .l p.L, .l c.L, .l j.L]))
        (.leaf (.exit 4, [.l (g.L ++ List.replicate (l.I - k.I).toNat [.i m0.I, .i m1.I]), .l p'.L, .i n.I, .i i.I, .i lo.I, .i hi.I, .l r.L, .l u.L, .l p.L, .l c.L, .l j.L, .i y1.I, .i y2.I, .l y3.L, .l y4.L, .i y5.I, .i y6.I, .l y7.L, .l y8.L])))
  | _ => .fail
def G91 (ds : List D) : T (List D) := match ds with
  | [lo, hi, r, u, p, c, j] => .leaf [.i lo.I, .i hi.I, .l r.L, .l u.L, .l p.L, .l c.L, .l j.L]
  | _ => .fail
def G41 (ds : List D) : T (List D) := match ds with
  | [p, c, j] => .ite (roadOk p.L c.L j.L) (.leaf [.i (lenR p.L), .i 0]) (.leaf [.i 0, .i 2])
  | _ => .fail
def cumL : Int → Int → List (List D) → List (List D)
  | _, _, [] => []
  | a, d, x :: L => [.i (a + ix x 0), .i (d + ix x 1)] :: cumL (a + ix x 0) (d + ix x 1) L
def sumI (k : Nat) (L : List (List D)) : Int := (L.map fun x => ix x k).sum
def outM (a d : Int) (o : List (List D)) (s : Nat) : List (List D) → List (List D)
  | [] => o
  | x :: L => o.take s ++ cumL a d (x :: L)
def metP (x : List D) : Prop := x = [.i (ix x 0), .i (ix x 1)] ∧ (0 ≤ ix x 0 ∧ ix x 0 ≤ 20000000) ∧ 0 ≤ ix x 1 ∧ ix x 1 ≤ 20000000
def G43_8 (L : List (List D)) (ds : List D) : T (Ex × List D) := match ds with
  | [b, n, a, d, p, c, j, s, o] => .need (yes ((1 ≤ s.I ∧ s.I ≤ o.L.length) ∧ s.I + L.length ≤ 200000 ∧ (∀ x ∈ L, metP x) ∧ (0 ≤ a.I ∧ a.I ≤ 20000000 * s.I) ∧ 0 ≤ d.I ∧ d.I ≤ 20000000 * s.I))
      (.leaf (.normal, [.b b.B, .i n.I, .i (a.I + sumI 0 L), .i (d.I + sumI 1 L), .l p.L, .l c.L, .l j.L, .i (s.I + L.length), .l (outM a.I d.I o.L s.I.toNat L)]))
  | _ => .fail
def sumsM (lo hi : Int) (r u p : List (List D)) : List (List D) := [.i 0, .i 0] :: cumL 0 0 (mets lo hi r u p)
def G43 (ds : List D) : T (List D) := match ds with
  | [p, c, j, lo, hi, r, u] => .ite (roadOk p.L c.L j.L && speedsOk lo.I hi.I r.L u.L) (.leaf [.i 1, .l (sumsM lo.I hi.I r.L u.L p.L), .b true]) (.leaf [.i 0, .b false])
  | _ => .fail
def sumAtM (k : Nat) (lo hi : Int) (r u p : List (List D)) (x : Int) : Int := ix ((sumsM lo hi r u p).getD x.toNat []) k
def betwB (lo hi : Int) (r u p c j : List (List D)) (a b : Int) : Bool := roadOk p c j && speedsOk lo hi r u && within a 0 (lenR p) && within b 0 (lenR p) && decide (a ≤ b)
def G12 (ds : List D) : T (List D) := match ds with
  | [p, c, j, lo, hi, r, u, a, b] => .ite (betwB lo.I hi.I r.L u.L p.L c.L j.L a.I b.I)
      (.leaf [.i (sumAtM 0 lo.I hi.I r.L u.L p.L b.I - sumAtM 0 lo.I hi.I r.L u.L p.L a.I), .i (sumAtM 1 lo.I hi.I r.L u.L p.L b.I - sumAtM 1 lo.I hi.I r.L u.L p.L a.I), .i 0]) (.leaf [.i 0, .i 0, .i 2])
  | _ => .fail
end
end Go.Proofs.Ytgoedfonmocafaa
namespace Go.Proofs.Ytgoedfonmocafaa
open Go.Lite
noncomputable def sp124 : SpL := [(125, mkF s125 G125), (126, mkF s126 G126)]
noncomputable def lp124 (q : Nat) : LpL := [(2, mkLY 2 l124_2 (G124_2 q)), (6, mkLY 2 l124_6 (G124_6 q)), (11, mkLY 2 l124_11 (G124_11 q))]
noncomputable def sw124 : SwL := []
noncomputable def tab124 (q : Nat) : Tab := mkTabY sp124 (lp124 q) sw124 y124 q
noncomputable def sp91 : SpL := []
noncomputable def lp91 : LpL := []
noncomputable def sw91 : SwL := []
noncomputable def tab91 : Tab := mkTab sp91 lp91 sw91
noncomputable def sp41 : SpL := [(51, mkF s51 G51), (53, mkF s53 G53)]
noncomputable def lp41 : LpL := []
noncomputable def sw41 : SwL := [(52, mkFW s52 G52)]
noncomputable def tab41 : Tab := mkTab sp41 lp41 sw41
noncomputable def it43_8 : ItL := [(124, mkFY s124 G124)]
noncomputable def sp43 : SpL := [(41, mkF s41 G41), (90, mkF s90 G90)]
noncomputable def lp43 : LpL := []
noncomputable def sw43 : SwL := [(91, mkFW s91 G91)]
noncomputable def rg43 : LpL := [(8, rangeS 0 [4, 5, 6, 8, 9, 32] (rangeOf C.P 43 8).1 it43_8 h43_8 G43_8)]
noncomputable def tab43 : Tab := mkTabR sp43 lp43 sw43 rg43
noncomputable def sp12 : SpL := [(43, mkF s43 G43), (44, mkF s44 G44), (45, mkF s45 G45)]
noncomputable def lp12 : LpL := []
noncomputable def sw12 : SwL := []
noncomputable def tab12 : Tab := mkTab sp12 lp12 sw12
end Go.Proofs.Ytgoedfonmocafaa
namespace Go.Proofs.Ytgoedfonmocafaa
open Go.Lite
set_option linter.unusedVariables false
set_option maxRecDepth 100000
theorem t124 (q : Nat) (a b c d e f g : D) : fnTY C (tab124 q) 124 s124 [a, b, c, d, e, f, g] =
  T.need (yes (e.L = e.L ∧ manyP e.L ∧ (e.L.length : Int) = (e.L.length : Int) ∧ (0 : Int) ≤ (0 : Int) ∧ (0 : Int) ≤ (e.L.length : Int) ∧ spP a.I b.I c.L d.L ∧ spP a.I b.I c.L d.L ∧ List.length ([] : List (List D)) ≤ q)) (T.ite (decide (q < List.length ([] : List (List D)) + List.length (metsT b.I c.L d.L a.I c.L d.L e.L (Int.toNat (0 : Int)) (e.L.length - Int.toNat (0 : Int))))) (T.leaf ([] ++ List.take (q + 1 - List.length ([] : List (List D))) (metsT b.I c.L d.L a.I c.L d.L e.L (Int.toNat (0 : Int)) (e.L.length - Int.toNat (0 : Int))))) (T.leaf ([] ++ metsT b.I c.L d.L a.I c.L d.L e.L (Int.toNat (0 : Int)) (e.L.length - Int.toNat (0 : Int))))) := by kernel_rfl
theorem t124_2 (q : Nat) (a b c d e f g h i j k l m n o p q1 r s : D) : roundTY C (tab124 q) 124 (loopOf C.P 124 2) 2 l124_2 [a, b, c, d, e, f, g, h, i, j, k, l, m, n, o, p, q1, r, s] =
  T.ite (decide (d.I < c.I)) (T.need (decide ((0 : Int) ≤ d.I ∧ d.I < (b.L.length : Int))) (T.need (yes (spP l.I m.I n.L o.L ∧ spP p.I q1.I r.L s.L ∧ pcP (D.I (List.getD (List.getD b.L d.I.toNat []) 0 default)) (D.I (List.getD (List.getD b.L d.I.toNat []) (0 + 1) default)) (D.I (List.getD (List.getD b.L d.I.toNat []) (0 + 1 + 1) default)) (D.I (List.getD (List.getD b.L d.I.toNat []) (0 + 1 + 1 + 1) default)) (D.I (List.getD (List.getD b.L d.I.toNat []) (0 + 1 + 1 + 1 + 1) default)) ∧ ((0 : Int) = (0 : Int) ∨ (0 : Int) = (1 : Int) ∧ (0 : Int) = quickV m.I n.L o.L (D.I (List.getD (List.getD b.L d.I.toNat []) (0 + 1) default)) (D.I (List.getD (List.getD b.L d.I.toNat []) (0 + 1 + 1) default)) (D.I (List.getD (List.getD b.L d.I.toNat []) (0 + 1 + 1 + 1 + 1) default)) ∨ (0 : Int) = (2 : Int) ∧ (0 : Int) = quickV m.I n.L o.L (D.I (List.getD (List.getD b.L d.I.toNat []) (0 + 1) default)) (D.I (List.getD (List.getD b.L d.I.toNat []) (0 + 1 + 1) default)) (D.I (List.getD (List.getD b.L d.I.toNat []) (0 + 1 + 1 + 1 + 1) default)) ∧ (0 : Int) = slowV p.I r.L s.L (D.I (List.getD (List.getD b.L d.I.toNat []) (0 + 1) default)) (D.I (List.getD (List.getD b.L d.I.toNat []) (0 + 1 + 1) default)) (D.I (List.getD (List.getD b.L d.I.toNat []) (0 + 1 + 1 + 1 + 1) default))))) (T.need (yes ((0 : Int) ≤ (0 : Int) ∧ (0 : Int) ≤ D.I (List.getD (List.getD b.L d.I.toNat []) 0 default) ∧ D.I (List.getD (List.getD b.L d.I.toNat []) 0 default) ≤ (5000 : Int) ∧ a.L.length ≤ q)) (T.ite (decide (q < a.L.length + Int.toNat (D.I (List.getD (List.getD b.L d.I.toNat []) 0 default) - (0 : Int)))) (T.leaf (Rd.out Ex.ret [D.l (a.L ++ List.take (q + 1 - a.L.length) (List.replicate (Int.toNat (D.I (List.getD (List.getD b.L d.I.toNat []) 0 default) - (0 : Int))) [D.i (quickV m.I n.L o.L (D.I (List.getD (List.getD b.L d.I.toNat []) (0 + 1) default)) (D.I (List.getD (List.getD b.L d.I.toNat []) (0 + 1 + 1) default)) (D.I (List.getD (List.getD b.L d.I.toNat []) (0 + 1 + 1 + 1 + 1) default))), D.i (slowV p.I r.L s.L (D.I (List.getD (List.getD b.L d.I.toNat []) (0 + 1) default)) (D.I (List.getD (List.getD b.L d.I.toNat []) (0 + 1 + 1) default)) (D.I (List.getD (List.getD b.L d.I.toNat []) (0 + 1 + 1 + 1 + 1) default)))])), D.i e.I, D.i f.I, D.l g.L, D.l h.L, D.l i.L, D.l j.L, D.l k.L])) (T.leaf (Rd.again [D.l (a.L ++ List.replicate (Int.toNat (D.I (List.getD (List.getD b.L d.I.toNat []) 0 default) - (0 : Int))) [D.i (quickV m.I n.L o.L (D.I (List.getD (List.getD b.L d.I.toNat []) (0 + 1) default)) (D.I (List.getD (List.getD b.L d.I.toNat []) (0 + 1 + 1) default)) (D.I (List.getD (List.getD b.L d.I.toNat []) (0 + 1 + 1 + 1 + 1) default))), D.i (slowV p.I r.L s.L (D.I (List.getD (List.getD b.L d.I.toNat []) (0 + 1) default)) (D.I (List.getD (List.getD b.L d.I.toNat []) (0 + 1 + 1) default)) (D.I (List.getD (List.getD b.L d.I.toNat []) (0 + 1 + 1 + 1 + 1) default)))]), D.l b.L, D.i c.I, D.i (IntKind.wrap IntKind.i64 (d.I + (1 : Int))), D.i e.I, D.i f.I, D.l g.L, D.l h.L, D.l i.L, D.l j.L, D.l k.L, D.i l.I, D.i m.I, D.l n.L, D.l o.L, D.i p.I, D.i q1.I, D.l r.L, D.l s.L])))))) (T.leaf (Rd.out (Ex.exit 0) [D.l a.L, D.i e.I, D.i f.I, D.l g.L, D.l h.L, D.l i.L, D.l j.L, D.l k.L])) := by kernel_rfl
theorem t124_6 (q : Nat) (a b c d e f g h i j k l m n o p q1 r s t u v w x y z z26 z27 z28 z29 z30 z31 z32 z33 z34 : D) : roundTY C (tab124 q) 124 (loopOf C.P 124 6) 2 l124_6 (a :: b :: c :: d :: e :: [f, g, h, i, j, k, l, m, n, o, p, q1, r, s, t, u, v, w, x, y, z, z26, z27, z28, z29, z30, z31, z32, z33, z34]) =
  T.ite (decide (m.I < (2 : Int))) (T.ite (decide (m.I = (↑0 : Int))) (T.need (yes (spP e.I f.I g.L h.L ∧ pcP z28.I z29.I z30.I z31.I z32.I)) (T.ite (decide (m.I = (↑0 : Int))) (T.leaf (Rd.again [D.l a.L, D.l b.L, D.i c.I, D.i d.I, D.i e.I, D.i f.I, D.l g.L, D.l h.L, D.i i.I, D.i j.I, D.l k.L, D.l l.L, D.i (IntKind.wrap IntKind.i64 (m.I + (1 : Int))), D.i n.I, D.i o.I, D.l p.L, D.l q1.L, D.l r.L, D.l s.L, D.l t.L, D.i u.I, D.i v.I, D.l w.L, D.l x.L, D.i y.I, D.i z.I, D.l z26.L, D.l z27.L, D.i z28.I, D.i z29.I, D.i z30.I, D.i z31.I, D.i z32.I, D.i (quickV f.I g.L h.L z29.I z30.I z32.I), D.i z34.I])) (T.need (decide (m.I = (↑(0 + 1) : Int))) (T.leaf (Rd.again [D.l a.L, D.l b.L, D.i c.I, D.i d.I, D.i e.I, D.i f.I, D.l g.L, D.l h.L, D.i i.I, D.i j.I, D.l k.L, D.l l.L, D.i (IntKind.wrap IntKind.i64 (m.I + (1 : Int))), D.i n.I, D.i o.I, D.l p.L, D.l q1.L, D.l r.L, D.l s.L, D.l t.L, D.i u.I, D.i v.I, D.l w.L, D.l x.L, D.i y.I, D.i z.I, D.l z26.L, D.l z27.L, D.i z28.I, D.i z29.I, D.i z30.I, D.i z31.I, D.i z32.I, D.i z33.I, D.i (quickV f.I g.L h.L z29.I z30.I z32.I)]))))) (T.need (decide (m.I = (↑(0 + 1) : Int))) (T.need (yes (spP i.I j.I k.L l.L ∧ pcP z28.I z29.I z30.I z31.I z32.I)) (T.ite (decide (m.I = (↑0 : Int))) (T.leaf (Rd.again [D.l a.L, D.l b.L, D.i c.I, D.i d.I, D.i e.I, D.i f.I, D.l g.L, D.l h.L, D.i i.I, D.i j.I, D.l k.L, D.l l.L, D.i (IntKind.wrap IntKind.i64 (m.I + (1 : Int))), D.i n.I, D.i o.I, D.l p.L, D.l q1.L, D.l r.L, D.l s.L, D.l t.L, D.i u.I, D.i v.I, D.l w.L, D.l x.L, D.i y.I, D.i z.I, D.l z26.L, D.l z27.L, D.i z28.I, D.i z29.I, D.i z30.I, D.i z31.I, D.i z32.I, D.i (slowV i.I k.L l.L z29.I z30.I z32.I), D.i z34.I])) (T.need (decide (m.I = (↑(0 + 1) : Int))) (T.leaf (Rd.again [D.l a.L, D.l b.L, D.i c.I, D.i d.I, D.i e.I, D.i f.I, D.l g.L, D.l h.L, D.i i.I, D.i j.I, D.l k.L, D.l l.L, D.i (IntKind.wrap IntKind.i64 (m.I + (1 : Int))), D.i n.I, D.i o.I, D.l p.L, D.l q1.L, D.l r.L, D.l s.L, D.l t.L, D.i u.I, D.i v.I, D.l w.L, D.l x.L, D.i y.I, D.i z.I, D.l z26.L, D.l z27.L, D.i z28.I, D.i z29.I, D.i z30.I, D.i z31.I, D.i z32.I, D.i z33.I, D.i (slowV i.I k.L l.L z29.I z30.I z32.I)]))))))) (T.leaf (Rd.out (Ex.exit 2) [D.l a.L, D.l b.L, D.i c.I, D.i d.I, D.i n.I, D.i o.I, D.l p.L, D.l q1.L, D.l r.L, D.l s.L, D.l t.L, D.i u.I, D.i v.I, D.l w.L, D.l x.L, D.i y.I, D.i z.I, D.l z26.L, D.l z27.L, D.i z28.I, D.i z29.I, D.i z30.I, D.i z31.I, D.i z32.I, D.i z33.I, D.i z34.I])) := by kernel_rfl
theorem t124_11 (q : Nat) (a b c d e f g h i j k l m n o p q1 r s t u v w : D) : roundTY C (tab124 q) 124 (loopOf C.P 124 11) 2 l124_11 [a, b, c, d, e, f, g, h, i, j, k, l, m, n, o, p, q1, r, s, t, u, v, w] =
  T.ite (decide (f.I < e.I)) (T.ite (!!a.L.length == (tab124 q).q) (T.leaf (Rd.out Ex.ret [D.l (a.L ++ [[D.i v.I] ++ ([D.i w.I] ++ []) ++ [] ++ []]), D.i g.I, D.i h.I, D.l i.L, D.l j.L, D.l k.L, D.l l.L, D.l m.L])) (T.leaf (Rd.again [D.l (a.L ++ [[D.i v.I] ++ ([D.i w.I] ++ []) ++ [] ++ []]), D.l b.L, D.i c.I, D.i d.I, D.i e.I, D.i (IntKind.wrap IntKind.i64 (f.I + (1 : Int))), D.i g.I, D.i h.I, D.l i.L, D.l j.L, D.l k.L, D.l l.L, D.l m.L, D.i n.I, D.i o.I, D.l p.L, D.l q1.L, D.i r.I, D.i s.I, D.l t.L, D.l u.L, D.i v.I, D.i w.I]))) (T.leaf (Rd.out (Ex.exit 4) [D.l a.L, D.l b.L, D.i c.I, D.i d.I, D.i g.I, D.i h.I, D.l i.L, D.l j.L, D.l k.L, D.l l.L, D.l m.L, D.i n.I, D.i o.I, D.l p.L, D.l q1.L, D.i r.I, D.i s.I, D.l t.L, D.l u.L])) := by kernel_rfl
theorem t91 (a b c d e f g : D) : fnTW C tab91 91 s91 [a, b, c, d, e, f, g] =
  T.leaf [D.i a.I, D.i b.I, D.l c.L, D.l d.L, D.l e.L, D.l f.L, D.l g.L] := by kernel_rfl
theorem t41 (a b c : D) : fnT C tab41 41 s41 [a, b, c] =
  T.ite (roadOk a.L b.L c.L) (T.ite false (T.leaf [D.i 0, D.i 0]) (T.need (yes (manyP a.L)) (T.need (decide (Int.toNat (↑(a.L.length + 1) : Int) ≤ List.length (begR a.L))) (T.need (yes (manyP a.L ∧ List.take (Int.toNat (↑(a.L.length + 1) : Int)) (begR a.L) = begR a.L)) (T.leaf [D.i (ix (List.getD (List.take (Int.toNat (↑(a.L.length + 1) : Int)) (begR a.L)) a.L.length []) 0), D.i 0]))))) (T.ite true (T.leaf [D.i 0, D.i 2]) (T.need (yes (manyP a.L)) (T.need (decide (Int.toNat (↑(a.L.length + 1) : Int) ≤ List.length (begR a.L))) (T.need (yes (manyP a.L ∧ List.take (Int.toNat (↑(a.L.length + 1) : Int)) (begR a.L) = begR a.L)) (T.leaf [D.i (ix (List.getD (List.take (Int.toNat (↑(a.L.length + 1) : Int)) (begR a.L)) a.L.length []) 0), D.i 0]))))) := by kernel_rfl
theorem t43 (a b c d e f g : D) : fnT C tab43 43 s43 [a, b, c, d, e, f, g] =
  T.ite (roadOk a.L b.L c.L) (T.ite false (T.leaf [D.i 0, D.b false]) (T.ite (speedsOk d.I e.I f.L g.L) (T.ite false (T.leaf [D.i 0, D.b false]) (T.need (decide ((0 : Int) ≤ (1 : Int) ∧ (1 : Int) ≤ IntKind.wrap IntKind.i64 (lenR a.L + (1 : Int)) ∧ IntKind.wrap IntKind.i64 (lenR a.L + (1 : Int)) ≤ (2 : Int) ^ 40 ∧ (↑Try.prog.types[178].bytes : Int) * IntKind.wrap IntKind.i64 (lenR a.L + (1 : Int)) ≤ (2 : Int) ^ 46)) (T.need (yes (spP d.I e.I f.L g.L ∧ manyP a.L)) (T.need (yes (((1 : Int) ≤ (↑(Int.toNat (1 : Int)) : Int) ∧ (↑(Int.toNat (1 : Int)) : Int) ≤ (↑(List.length (List.replicate (Int.toNat (IntKind.wrap IntKind.i64 (lenR a.L + (1 : Int)))) [D.i 0, D.i 0])) : Int)) ∧ (↑(Int.toNat (1 : Int)) : Int) + (↑(List.length (mets d.I e.I f.L g.L a.L)) : Int) ≤ (200000 : Int) ∧ (∀ (x : List D), x ∈ mets d.I e.I f.L g.L a.L → metP x) ∧ ((0 : Int) ≤ (0 : Int) ∧ (0 : Int) ≤ (20000000 : Int) * (↑(Int.toNat (1 : Int)) : Int)) ∧ (0 : Int) ≤ (0 : Int) ∧ (0 : Int) ≤ (20000000 : Int) * (↑(Int.toNat (1 : Int)) : Int))) (T.need (decide ((0 : Int) ≤ IntKind.wrap IntKind.i64 (lenR a.L + (1 : Int)) ∧ IntKind.wrap IntKind.i64 (lenR a.L + (1 : Int)) ≤ (↑(Int.toNat ((↑(Int.toNat (1 : Int)) : Int) + (↑(List.length (mets d.I e.I f.L g.L a.L)) : Int))) : Int))) (T.need (decide ((0 : Int) ≤ IntKind.wrap IntKind.i64 (lenR a.L + (1 : Int)) ∧ IntKind.wrap IntKind.i64 (lenR a.L + (1 : Int)) ≤ (↑(Int.toNat (IntKind.wrap IntKind.i64 (lenR a.L + (1 : Int)))) : Int))) (T.need (decide (Int.toNat (IntKind.wrap IntKind.i64 (lenR a.L + (1 : Int))) ≤ List.length (outM (0 : Int) (0 : Int) (List.replicate (Int.toNat (IntKind.wrap IntKind.i64 (lenR a.L + (1 : Int)))) [D.i 0, D.i 0]) (Int.toNat (↑(Int.toNat (1 : Int)) : Int)) (mets d.I e.I f.L g.L a.L)))) (T.leaf [D.i 1, D.l (List.take (Int.toNat (IntKind.wrap IntKind.i64 (lenR a.L + (1 : Int)))) (outM (0 : Int) (0 : Int) (List.replicate (Int.toNat (IntKind.wrap IntKind.i64 (lenR a.L + (1 : Int)))) [D.i 0, D.i 0]) (Int.toNat (↑(Int.toNat (1 : Int)) : Int)) (mets d.I e.I f.L g.L a.L))), D.b true])))))))) (T.ite true (T.leaf [D.i 0, D.b false]) (T.need (decide ((0 : Int) ≤ (1 : Int) ∧ (1 : Int) ≤ IntKind.wrap IntKind.i64 (lenR a.L + (1 : Int)) ∧ IntKind.wrap IntKind.i64 (lenR a.L + (1 : Int)) ≤ (2 : Int) ^ 40 ∧ (↑Try.prog.types[178].bytes : Int) * IntKind.wrap IntKind.i64 (lenR a.L + (1 : Int)) ≤ (2 : Int) ^ 46)) (T.need (yes (spP d.I e.I f.L g.L ∧ manyP a.L)) (T.need (yes (((1 : Int) ≤ (↑(Int.toNat (1 : Int)) : Int) ∧ (↑(Int.toNat (1 : Int)) : Int) ≤ (↑(List.length (List.replicate (Int.toNat (IntKind.wrap IntKind.i64 (lenR a.L + (1 : Int)))) [D.i 0, D.i 0])) : Int)) ∧ (↑(Int.toNat (1 : Int)) : Int) + (↑(List.length (mets d.I e.I f.L g.L a.L)) : Int) ≤ (200000 : Int) ∧ (∀ (x : List D), x ∈ mets d.I e.I f.L g.L a.L → metP x) ∧ ((0 : Int) ≤ (0 : Int) ∧ (0 : Int) ≤ (20000000 : Int) * (↑(Int.toNat (1 : Int)) : Int)) ∧ (0 : Int) ≤ (0 : Int) ∧ (0 : Int) ≤ (20000000 : Int) * (↑(Int.toNat (1 : Int)) : Int))) (T.need (decide ((0 : Int) ≤ IntKind.wrap IntKind.i64 (lenR a.L + (1 : Int)) ∧ IntKind.wrap IntKind.i64 (lenR a.L + (1 : Int)) ≤ (↑(Int.toNat ((↑(Int.toNat (1 : Int)) : Int) + (↑(List.length (mets d.I e.I f.L g.L a.L)) : Int))) : Int))) (T.need (decide ((0 : Int) ≤ IntKind.wrap IntKind.i64 (lenR a.L + (1 : Int)) ∧ IntKind.wrap IntKind.i64 (lenR a.L + (1 : Int)) ≤ (↑(Int.toNat (IntKind.wrap IntKind.i64 (lenR a.L + (1 : Int)))) : Int))) (T.need (decide (Int.toNat (IntKind.wrap IntKind.i64 (lenR a.L + (1 : Int))) ≤ List.length (outM (0 : Int) (0 : Int) (List.replicate (Int.toNat (IntKind.wrap IntKind.i64 (lenR a.L + (1 : Int)))) [D.i 0, D.i 0]) (Int.toNat (↑(Int.toNat (1 : Int)) : Int)) (mets d.I e.I f.L g.L a.L)))) (T.leaf [D.i 1, D.l (List.take (Int.toNat (IntKind.wrap IntKind.i64 (lenR a.L + (1 : Int)))) (outM (0 : Int) (0 : Int) (List.replicate (Int.toNat (IntKind.wrap IntKind.i64 (lenR a.L + (1 : Int)))) [D.i 0, D.i 0]) (Int.toNat (↑(Int.toNat (1 : Int)) : Int)) (mets d.I e.I f.L g.L a.L))), D.b true])))))))))) (T.ite true (T.leaf [D.i 0, D.b false]) (T.ite (speedsOk d.I e.I f.L g.L) (T.ite false (T.leaf [D.i 0, D.b false]) (T.need true (T.need (yes (spP d.I e.I f.L g.L ∧ manyP a.L)) (T.need (yes (((1 : Int) ≤ (↑(Int.toNat (1 : Int)) : Int) ∧ (↑(Int.toNat (1 : Int)) : Int) ≤ (↑(List.length (List.replicate (Int.toNat (IntKind.wrap IntKind.i64 ((0 : Int) + (1 : Int)))) [D.i 0, D.i 0])) : Int)) ∧ (↑(Int.toNat (1 : Int)) : Int) + (↑(List.length (mets d.I e.I f.L g.L a.L)) : Int) ≤ (200000 : Int) ∧ (∀ (x : List D), x ∈ mets d.I e.I f.L g.L a.L → metP x) ∧ ((0 : Int) ≤ (0 : Int) ∧ (0 : Int) ≤ (20000000 : Int) * (↑(Int.toNat (1 : Int)) : Int)) ∧ (0 : Int) ≤ (0 : Int) ∧ (0 : Int) ≤ (20000000 : Int) * (↑(Int.toNat (1 : Int)) : Int))) (T.need (decide ((0 : Int) ≤ IntKind.wrap IntKind.i64 ((0 : Int) + (1 : Int)) ∧ IntKind.wrap IntKind.i64 ((0 : Int) + (1 : Int)) ≤ (↑(Int.toNat ((↑(Int.toNat (1 : Int)) : Int) + (↑(List.length (mets d.I e.I f.L g.L a.L)) : Int))) : Int))) (T.need true (T.need (decide (Int.toNat (IntKind.wrap IntKind.i64 ((0 : Int) + (1 : Int))) ≤ List.length (outM (0 : Int) (0 : Int) (List.replicate (Int.toNat (IntKind.wrap IntKind.i64 ((0 : Int) + (1 : Int)))) [D.i 0, D.i 0]) (Int.toNat (↑(Int.toNat (1 : Int)) : Int)) (mets d.I e.I f.L g.L a.L)))) (T.leaf [D.i 1, D.l (List.take (Int.toNat (IntKind.wrap IntKind.i64 ((0 : Int) + (1 : Int)))) (outM (0 : Int) (0 : Int) (List.replicate (Int.toNat (IntKind.wrap IntKind.i64 ((0 : Int) + (1 : Int)))) [D.i 0, D.i 0]) (Int.toNat (↑(Int.toNat (1 : Int)) : Int)) (mets d.I e.I f.L g.L a.L))), D.b true])))))))) (T.ite true (T.leaf [D.i 0, D.b false]) (T.need true (T.need (yes (spP d.I e.I f.L g.L ∧ manyP a.L)) (T.need (yes (((1 : Int) ≤ (↑(Int.toNat (1 : Int)) : Int) ∧ (↑(Int.toNat (1 : Int)) : Int) ≤ (↑(List.length (List.replicate (Int.toNat (IntKind.wrap IntKind.i64 ((0 : Int) + (1 : Int)))) [D.i 0, D.i 0])) : Int)) ∧ (↑(Int.toNat (1 : Int)) : Int) + (↑(List.length (mets d.I e.I f.L g.L a.L)) : Int) ≤ (200000 : Int) ∧ (∀ (x : List D), x ∈ mets d.I e.I f.L g.L a.L → metP x) ∧ ((0 : Int) ≤ (0 : Int) ∧ (0 : Int) ≤ (20000000 : Int) * (↑(Int.toNat (1 : Int)) : Int)) ∧ (0 : Int) ≤ (0 : Int) ∧ (0 : Int) ≤ (20000000 : Int) * (↑(Int.toNat (1 : Int)) : Int))) (T.need (decide ((0 : Int) ≤ IntKind.wrap IntKind.i64 ((0 : Int) + (1 : Int)) ∧ IntKind.wrap IntKind.i64 ((0 : Int) + (1 : Int)) ≤ (↑(Int.toNat ((↑(Int.toNat (1 : Int)) : Int) + (↑(List.length (mets d.I e.I f.L g.L a.L)) : Int))) : Int))) (T.need true (T.need (decide (Int.toNat (IntKind.wrap IntKind.i64 ((0 : Int) + (1 : Int))) ≤ List.length (outM (0 : Int) (0 : Int) (List.replicate (Int.toNat (IntKind.wrap IntKind.i64 ((0 : Int) + (1 : Int)))) [D.i 0, D.i 0]) (Int.toNat (↑(Int.toNat (1 : Int)) : Int)) (mets d.I e.I f.L g.L a.L)))) (T.leaf [D.i 1, D.l (List.take (Int.toNat (IntKind.wrap IntKind.i64 ((0 : Int) + (1 : Int)))) (outM (0 : Int) (0 : Int) (List.replicate (Int.toNat (IntKind.wrap IntKind.i64 ((0 : Int) + (1 : Int)))) [D.i 0, D.i 0]) (Int.toNat (↑(Int.toNat (1 : Int)) : Int)) (mets d.I e.I f.L g.L a.L))), D.b true])))))))))) := by kernel_rfl
theorem t43_r8 (a b c d e f g h i j k : D) : roundRT C tab43 43 (rangeOf C.P 43 8) 0 4 [4, 5, 6, 8, 9, 32] h43_8 y124 [a, b, c, d, e, f, g, h, i] [j, k] =
  T.need true (T.need true (T.need true (T.need true (T.need true (T.need true (T.need true (T.ite false (T.leaf (Rd.again [D.b a.B, D.i b.I, D.i (IntKind.wrap IntKind.i64 (c.I + j.I)), D.i (IntKind.wrap IntKind.i64 (d.I + k.I)), D.l e.L, D.l f.L, D.l g.L, D.i (h.I.toNat : Int), D.l i.L], [])) (T.need (decide (h.I.toNat ≤ i.L.length ∧ h.I.toNat + 1 ≤ 2 ^ 62 ∧ (h.I.toNat + 1) * Try.prog.types[178].bytes ≤ 2 ^ 47)) (T.leaf (Rd.again [D.b a.B, D.i b.I, D.i (IntKind.wrap IntKind.i64 (c.I + j.I)), D.i (IntKind.wrap IntKind.i64 (d.I + k.I)), D.l e.L, D.l f.L, D.l g.L, D.i (↑(h.I.toNat + 1) : Int), D.l (List.take h.I.toNat i.L ++ List.take (List.length [[D.i (IntKind.wrap IntKind.i64 (c.I + j.I)), D.i (IntKind.wrap IntKind.i64 (d.I + k.I))]]) [[D.i (IntKind.wrap IntKind.i64 (c.I + j.I)), D.i (IntKind.wrap IntKind.i64 (d.I + k.I))]])], [])))))))))) := by kernel_rfl
theorem t12 (a b c d e f g h i : D) : fnT C tab12 12 s12 [a, b, c, d, e, f, g, h, i] =
  T.ite (roadOk a.L b.L c.L && speedsOk d.I e.I f.L g.L) (T.ite false (T.leaf [D.i 0, D.i 0, D.i 2]) (T.need (yes (List.length (sumsM d.I e.I f.L g.L a.L) ≤ 1000000)) (T.ite (!within h.I (0 : Int) ((↑(List.length (sumsM d.I e.I f.L g.L a.L)) : Int) - (1 : Int))) (T.leaf [D.i 0, D.i 0, D.i 2]) (T.need (yes (List.length (sumsM d.I e.I f.L g.L a.L) ≤ 1000000)) (T.ite (!within i.I (0 : Int) ((↑(List.length (sumsM d.I e.I f.L g.L a.L)) : Int) - (1 : Int))) (T.leaf [D.i 0, D.i 0, D.i 2]) (T.ite (decide (h.I > i.I)) (T.leaf [D.i 0, D.i 0, D.i 2]) (T.need (yes (sumsP (sumsM d.I e.I f.L g.L a.L) ∧ ((0 : Int) = (0 : Int) ∨ (0 : Int) = (1 : Int)) ∧ ((0 : Int) ≤ h.I ∧ h.I < (↑(List.length (sumsM d.I e.I f.L g.L a.L)) : Int)) ∧ (0 : Int) ≤ i.I ∧ i.I < (↑(List.length (sumsM d.I e.I f.L g.L a.L)) : Int))) (T.need (yes (sumsP (sumsM d.I e.I f.L g.L a.L) ∧ ((1 : Int) = (0 : Int) ∨ (1 : Int) = (1 : Int)) ∧ ((0 : Int) ≤ h.I ∧ h.I < (↑(List.length (sumsM d.I e.I f.L g.L a.L)) : Int)) ∧ (0 : Int) ≤ i.I ∧ i.I < (↑(List.length (sumsM d.I e.I f.L g.L a.L)) : Int))) (T.leaf [D.i (ix (List.getD (sumsM d.I e.I f.L g.L a.L) i.I.toNat []) (Int.toNat (0 : Int)) - ix (List.getD (sumsM d.I e.I f.L g.L a.L) h.I.toNat []) (Int.toNat (0 : Int))), D.i (ix (List.getD (sumsM d.I e.I f.L g.L a.L) i.I.toNat []) (Int.toNat (1 : Int)) - ix (List.getD (sumsM d.I e.I f.L g.L a.L) h.I.toNat []) (Int.toNat (1 : Int))), D.i 0]))))))))) (T.ite true (T.leaf [D.i 0, D.i 0, D.i 2]) T.fail) := by kernel_rfl
end Go.Proofs.Ytgoedfonmocafaa
namespace Go.Proofs.Ytgoedfonmocafaa
open Go.Lite
set_option maxRecDepth 100000
theorem ok124_6 (q n : Nat) : LoopSimY C (n + 2) 2 124 (loopOf C.P 124 6) (some y124) q (mkLY 2 l124_6 (G124_6 q)) := by
  refine loop_ofY hC (sp := sp124) (lp := lp124 q) (sw := sw124) (Y := y124) (yOK_mk _ _ _) ⟨ok125 n, ok126 n, trivial⟩ trivial 2 [] (by kernel_rfl) rfl (by kernel_rfl) (fun k hk => by cases hk) (by kernel_rfl) (fun ds => (2 - (ds.getD 12 default).I).toNat) fun ds rr h => ?_
  unfold G124_6 at h
  split at h
  · rename_i g p' n i x1 x2 x3 x4 x5 x6 x7 x8 k lo hi r u p c j y1 y2 y3 y4 y5 y6 y7 y8 a b c' d e m0 m1
    obtain ⟨hp, h⟩ := need_some h
    rw [yes_iff] at hp
    obtain ⟨h1, h2, h3, hk⟩ := hp
    refine ⟨by rw [fuelC]; show (2 - k.I).toNat < _; rcases hk with h | h | h <;> omega, ?_⟩
    rw [show roundTY C (mkTabY sp124 (lp124 q) sw124 y124 q) 124 (loopOf C.P 124 6) 2 l124_6 (g :: p' :: n :: i :: x1 :: [x2, x3, x4, x5, x6, x7, x8, k, lo, hi, r, u, p, c, j, y1, y2, y3, y4, y5, y6, y7, y8, a, b, c', d, e, m0, m1]) = _ from t124_6 q g p' n i x1 x2 x3 x4 x5 x6 x7 x8 k lo hi r u p c j y1 y2 y3 y4 y5 y6 y7 y8 a b c' d e m0 m1]
    have w0 : IntKind.i64.wrap ((0 : Int) + 1) = 1 := by decide
    have w1 : IntKind.i64.wrap ((1 : Int) + 1) = 2 := by decide
    rcases hk with hk | ⟨hk, hm⟩ | ⟨hk, hm, hm'⟩
    · simp only [hk, w0]
      refine rd_pos (by omega) (rd_pos (by trivial) (rd_yes ⟨h1, h3⟩ (rd_pos (by trivial) (rd_again ((need_yes ⟨h1, h2, h3, .inr (.inl ⟨rfl, rfl⟩)⟩).trans ?_) (by
        show (2 - (1 : Int)).toNat < (2 - k.I).toNat
        omega)))))
      exact h
    · simp only [hk, w1]
      refine rd_pos (by omega) (rd_neg (by omega) (rd_dec (by omega) (rd_yes ⟨h2, h3⟩ (rd_neg (by omega) (rd_dec (by omega) (rd_again ((need_yes ⟨h1, h2, h3, .inr (.inr ⟨rfl, hm, rfl⟩)⟩).trans ?_) (by
        show (2 - (2 : Int)).toNat < (2 - k.I).toNat
        omega)))))))
      exact h
    · rw [hk]
      refine rd_neg (by omega) ?_
      rw [hm, hm']
      exact rd_out h
  · cases h
theorem ok124_11 (q n : Nat) : LoopSimY C (n + 2) 2 124 (loopOf C.P 124 11) (some y124) q (mkLY 2 l124_11 (G124_11 q)) := by
  refine loop_ofY hC (sp := sp124) (lp := lp124 q) (sw := sw124) (Y := y124) (yOK_mk _ _ _) ⟨ok125 n, ok126 n, trivial⟩ trivial 2 [] (by kernel_rfl) rfl (by kernel_rfl) (fun k hk => by cases hk) (by kernel_rfl) (fun ds => ((ds.getD 4 default).I - (ds.getD 5 default).I).toNat) fun ds rr h => ?_
  unfold G124_11 at h
  split at h
  · rename_i g p' n i l k lo hi r u p c j y1 y2 y3 y4 y5 y6 y7 y8 m0 m1
    obtain ⟨hp, h⟩ := need_some h
    rw [yes_iff] at hp
    obtain ⟨h1, h2, h3, hg⟩ := hp
    refine ⟨by rw [fuelC]; show (l.I - k.I).toNat < _; omega, ?_⟩
    rw [show roundTY C (mkTabY sp124 (lp124 q) sw124 y124 q) 124 (loopOf C.P 124 11) 2 l124_11 [g, p', n, i, l, k, lo, hi, r, u, p, c, j, y1, y2, y3, y4, y5, y6, y7, y8, m0, m1] = _ from t124_11 q g p' n i l k lo hi r u p c j y1 y2 y3 y4 y5 y6 y7 y8 m0 m1]
    have hq : (tab124 q).q = q := rfl
    simp only [hq, List.append_nil, List.cons_append, List.nil_append, Bool.not_not]
    refine rd_if (fun hlt => ?_) fun hge => ?_
    · have w0 : IntKind.i64.wrap (k.I + 1) = k.I + 1 := wrap_id (by omega) (by omega)
      have e1 : (l.I - k.I).toNat = (l.I - (k.I + 1)).toNat + 1 := by omega
      rw [e1, List.replicate_succ] at h
      rw [w0]
      refine rd_ite (fun c2 => ?_) fun c2 => ?_
      · have c2 : g.L.length = q := by simpa using c2
        rw [run_ite, if_pos (by simp; omega)] at h
        rw [show q + 1 - g.L.length = 1 by omega] at h
        exact rd_out h
      · have c2 : g.L.length ≠ q := by simpa using c2
        refine rd_again ((need_yes ⟨by simp only [I_i]; omega, by simp only [I_i]; omega, h3, by simp only [L_l, List.length_append, List.length_cons, List.length_nil]; omega⟩).trans ?_) (by
          show (l.I - (k.I + 1)).toNat < (l.I - k.I).toNat
          omega)
        simp only [L_l, I_i, List.length_append, List.length_cons, List.length_nil, List.append_assoc, List.cons_append, List.nil_append]
        rw [show q + 1 - g.L.length = (q + 1 - (g.L.length + (0 + 1))) + 1 by omega, List.take_succ_cons] at h
        rw [show g.L.length + (0 + 1) + (l.I - (k.I + 1)).toNat = g.L.length + ((l.I - (k.I + 1)).toNat + 1) by omega]
        exact h
    · rw [show (l.I - k.I).toNat = 0 by omega] at h
      simp only [List.replicate_zero, List.append_nil] at h
      rw [run_ite] at h
      split at h
      · rename_i hc
        have := of_decide_eq_true hc
        omega
      · exact rd_out h
  · cases h
theorem metsT_step {hi lo : Int} {r u r' u' p : List (List D)} {k : Nat} (hk : k < p.length) : metsT hi r u lo r' u' p k (p.length - k) = List.replicate (ix (p.getD k []) 0).toNat (cellT hi r u lo r' u' (p.getD k [])) ++ metsT hi r u lo r' u' p (k + 1) (p.length - (k + 1)) := by
  rw [show p.length - k = (p.length - (k + 1)) + 1 by omega]
  rfl
theorem many_pc {p : List (List D)} (hm : manyP p) {k : Nat} (hk : k < p.length) : pcP (ix (p.getD k []) 0) (ix (p.getD k []) 1) (ix (p.getD k []) 2) (ix (p.getD k []) 3) (ix (p.getD k []) 4) := allFrom_iff.1 hm.2.2 k (Nat.zero_le _) (by omega)
theorem ok124_2 (q n : Nat) : LoopSimY C (n + 2) 2 124 (loopOf C.P 124 2) (some y124) q (mkLY 2 l124_2 (G124_2 q)) := by
  refine loop_ofY hC (sp := sp124) (lp := lp124 q) (sw := sw124) (Y := y124) (yOK_mk _ _ _) ⟨ok125 n, ok126 n, trivial⟩ trivial 2 [6, 11] (by kernel_rfl) (by kernel_rfl) (by kernel_rfl) (fun k hk L hL => by
    simp at hk; rcases hk with hk | hk <;> subst hk <;> cases hL; exact ok124_6 q n; exact ok124_11 q n) (by kernel_rfl) (fun ds => ((ds.getD 2 default).I - (ds.getD 3 default).I).toNat) fun ds rr h => ?_
  unfold G124_2 at h
  split at h
  · rename_i g p' n i lo hi r u p c j y1 y2 y3 y4 y5 y6 y7 y8
    obtain ⟨hp, h⟩ := need_some h
    rw [yes_iff] at hp
    obtain ⟨h1, hm, h2, h3, h4, h5, h6, hg⟩ := hp
    have hml := hm.2.1
    refine ⟨by rw [fuelC]; show (n.I - i.I).toNat < _; omega, ?_⟩
    rw [show roundTY C (mkTabY sp124 (lp124 q) sw124 y124 q) 124 (loopOf C.P 124 2) 2 l124_2 [g, p', n, i, lo, hi, r, u, p, c, j, y1, y2, y3, y4, y5, y6, y7, y8] = _ from t124_2 q g p' n i lo hi r u p c j y1 y2 y3 y4 y5 y6 y7 y8]
    obtain ⟨k, hk⟩ : ∃ k : Nat, i.I = k := ⟨i.I.toNat, by omega⟩
    simp only [hk, h1, h2, Int.toNat_natCast, ix_def, Nat.reduceAdd, Int.sub_zero] at h h3 h4 ⊢
    refine rd_if (fun hlt => ?_) fun hge => ?_
    · have hlt : k < p.L.length := by omega
      have hpc := many_pc hm hlt
      have hpr := pc_of hpc
      rw [metsT_step hlt] at h
      rw [wrap_succ (by omega)]
      have hcell : [D.i (quickV y2.I y3.L y4.L (ix (p.L.getD k []) 1) (ix (p.L.getD k []) 2) (ix (p.L.getD k []) 4)), D.i (slowV y5.I y7.L y8.L (ix (p.L.getD k []) 1) (ix (p.L.getD k []) 2) (ix (p.L.getD k []) 4))] = cellT y2.I y3.L y4.L y5.I y7.L y8.L (p.L.getD k []) := rfl
      rw [hcell]
      generalize cellT y2.I y3.L y4.L y5.I y7.L y8.L (p.L.getD k []) = cl at h ⊢
      generalize HR : metsT y2.I y3.L y4.L y5.I y7.L y8.L p.L (k + 1) (p.L.length - (k + 1)) = R at h
      refine rd_dec (by omega) (rd_yes ⟨h5, h6, hpc, .inl (by trivial)⟩ (rd_yes ⟨by omega, by omega, hpr.1.2, hg⟩ (rd_if (fun hc => ?_) fun hc => ?_)))
      · simp only [List.length_append, List.length_replicate] at h
        rw [run_ite, if_pos (decide_eq_true (by omega))] at h
        rw [List.take_append_of_le_length (by rw [List.length_replicate]; omega)] at h
        exact rd_out h
      · refine rd_again ((need_yes ⟨rfl, hm, rfl, by simp only [I_i]; omega, by simp only [I_i]; omega, h5, h6, by simp only [L_l, List.length_append, List.length_replicate]; omega⟩).trans ?_) (by
          show ((p.L.length : Int) - ((k + 1 : Nat) : Int)).toNat < (n.I - i.I).toNat
          omega)
        simp only [L_l, I_i, Int.toNat_natCast, HR, List.length_append, List.length_replicate, List.append_assoc]
        rw [List.take_append, List.take_of_length_le (l := List.replicate _ _) (by rw [List.length_replicate]; omega), List.length_replicate, ← List.append_assoc] at h
        simp only [List.length_append, List.length_replicate] at h
        rw [show q + 1 - g.L.length - (ix (p.L.getD k []) 0).toNat = q + 1 - (g.L.length + (ix (p.L.getD k []) 0).toNat) by omega] at h
        rw [show g.L.length + (ix (p.L.getD k []) 0).toNat + R.length = g.L.length + ((ix (p.L.getD k []) 0).toNat + R.length) by omega]
        simp only [← List.append_assoc] at h ⊢
        exact h
    · rw [show p.L.length - k = 0 by omega] at h
      simp only [metsT, List.append_nil, List.length_nil, Nat.add_zero] at h
      rw [run_ite] at h
      split at h
      · rename_i hc
        have := of_decide_eq_true hc
        omega
      · exact rd_out h
  · cases h
theorem ok124 (n : Nat) : IterOK C (n + 3) 124 y124 (mkFY s124 G124) := by
  refine iter_of hC (sp := sp124) (lp := lp124) (sw := sw124) (Y := y124) (yOK_mk _ _ _) ⟨ok125 n, ok126 n, trivial⟩ trivial (by kernel_rfl) [2] (by kernel_rfl) (by kernel_rfl) (by kernel_rfl) (fun q k hk L hL => by
    simp at hk; subst hk; cases hL; exact ok124_2 q n) fun ds L h q => ?_
  unfold G124 at h
  split at h
  · rename_i lo hi r u p c j
    obtain ⟨hp, h⟩ := need_some h
    rw [yes_iff] at hp
    cases h
    refine (congrArg T.run (t124 q lo hi r u p c j)).trans (go_yes ⟨rfl, hp.2, rfl, by omega, by omega, hp.1, hp.1, by simp⟩ (go_if (fun cc => ?_) fun cc => ?_))
    · simp only [List.nil_append, List.length_nil, Nat.sub_zero, run_leaf]
      rfl
    · have cc : ¬ q < (metsT hi.I r.L u.L lo.I r.L u.L p.L 0 p.L.length).length := fun h => cc (by simpa using h)
      have cc' : (mets lo.I hi.I r.L u.L p.L).length ≤ q + 1 := by
        show (metsT hi.I r.L u.L lo.I r.L u.L p.L 0 p.L.length).length ≤ q + 1
        omega
      simp only [List.nil_append, run_leaf]
      rw [List.take_of_length_le cc']
      rfl
  · cases h
theorem ok91 (n : Nat) : FnOKW C (n + 1) 91 (mkFW s91 G91) := by
  refine fn_ofW hC (sp := sp91) (lp := lp91) (sw := sw91) trivial trivial (by kernel_rfl) [] (by kernel_rfl) rfl (fun k hk => by cases hk) fun ds rr h => ?_
  unfold G91 at h
  split at h
  · exact (congrArg T.run (t91 _ _ _ _ _ _ _)).trans h
  · cases h
theorem ok41 (n : Nat) : FnOK C (n + 5) 41 (mkF s41 G41) := by
  refine fn_ofS hC (sp := sp41) (lp := lp41) (sw := sw41) ⟨ok51 n, ok53 (n + 3), trivial⟩ ⟨ok52 (n + 2), trivial⟩ (by kernel_rfl) [] (by kernel_rfl) rfl (fun k hk => by cases hk) fun ds rr h => ?_
  unfold G41 at h
  split at h
  · rename_i p c j
    refine (congrArg T.run (t41 p c j)).trans ?_
    cases hr : roadOk p.L c.L j.L with
    | false =>
      rw [hr] at h
      exact go_false rfl (go_true rfl h)
    | true =>
      rw [hr] at h
      have hm : manyP p.L := by
        unfold roadOk sizesOk at hr
        simp only [Bool.and_eq_true, decide_eq_true_eq, Lite.within_iff] at hr
        exact ⟨by omega, by omega, hr.1.1.1.2⟩
      have htk : (begR p.L).take (p.L.length + 1) = begR p.L := List.take_of_length_le (by rw [begR_length]; omega)
      have hln : ix ((begR p.L).getD p.L.length []) 0 = lenR p.L := begR_get (Nat.le_refl _)
      have hbl := begR_length p.L
      simp only [Int.toNat_natCast, htk, hln]
      exact go_true rfl (go_false rfl (go_yes hm (go_dec (by omega) (go_yes ⟨hm, by trivial⟩ h))))
  · cases h
end Go.Proofs.Ytgoedfonmocafaa
namespace Go.Proofs.Ytgoedfonmocafaa
open Go.Lite
set_option maxRecDepth 100000
theorem take1 (x : List D) : List.take 1 [x] = [x] := rfl
end Go.Proofs.Ytgoedfonmocafaa
namespace Go.Proofs.Ytgoedfonmocafaa
open Go.Lite
set_option maxRecDepth 100000
theorem road_of {p c j : List (List D)} (h : roadP p c j) : manyP p ∧ c.length ≤ 1000 ∧ j.length ≤ 200 ∧ lenR p ≤ 100000 ∧ p ≠ [] := by
  unfold roadP roadOk sizesOk at h
  simp only [Bool.and_eq_true, decide_eq_true_eq, Lite.within_iff] at h
  obtain ⟨⟨⟨⟨⟨⟨h1, h2⟩, h3⟩, h4⟩, h5⟩, -⟩, -⟩ := h
  refine ⟨⟨by omega, by omega, h4⟩, h2, h3, h5, ?_⟩
  intro e
  rw [e] at h1
  simp at h1
end Go.Proofs.Ytgoedfonmocafaa
namespace Go.Proofs.Ytgoedfonmocafaa
open Go.Lite
set_option maxRecDepth 100000
theorem metsT_len {hi lo : Int} {r u r' u' p : List (List D)} : ∀ (k i : Nat), (∀ j, i ≤ j → j < i + k → 0 ≤ ix (p.getD j []) 0) → ((metsT hi r u lo r' u' p i k).length : Int) = lenFrom p i k
  | 0, _, _ => rfl
  | k + 1, i, h => by
    have h1 := metsT_len (hi := hi) (lo := lo) (r := r) (u := u) (r' := r') (u' := u') (p := p) k (i + 1) fun j a b => h j (by omega) (by omega)
    have h2 := h i (Nat.le_refl _) (by omega)
    simp only [metsT, lenFrom, List.length_append, List.length_replicate]
    omega
theorem mets_len {lo hi : Int} {r u p : List (List D)} (hm : manyP p) : ((mets lo hi r u p).length : Int) = lenR p := metsT_len _ _ fun j _ hj => by
  have := piece_rng hm.2.2 (k := j) (by omega)
  omega
theorem mets_P {lo hi : Int} {r u p : List (List D)} (hs : spP lo hi r u) (hm : manyP p) : ∀ (k i : Nat), i + k ≤ p.length → ∀ x ∈ metsT hi r u lo r u p i k, metP x ∧ ix x 0 ≤ ix x 1
  | 0, _, _, x, hx => by cases hx
  | k + 1, i, h, x, hx => by
    simp only [metsT, List.mem_append] at hx
    rcases hx with hx | hx
    · obtain ⟨-, rfl⟩ := List.mem_replicate.1 hx
      have hp := piece_rng hm.2.2 (k := i) (by omega)
      have hq := quick_slow hs (e := ix (p.getD i []) 4) (by omega) (ix (p.getD i []) 1) (ix (p.getD i []) 2)
      exact ⟨⟨rfl, ⟨hq.1, by show quickV hi r u _ _ _ ≤ _; omega⟩, by show 0 ≤ slowV lo r u _ _ _; omega, by show slowV lo r u _ _ _ ≤ _; omega⟩, hq.2.1⟩
    · exact mets_P hs hm k (i + 1) (by omega) x hx
theorem mets_all {lo hi : Int} {r u p : List (List D)} (hs : spP lo hi r u) (hm : manyP p) : ∀ x ∈ mets lo hi r u p, metP x ∧ ix x 0 ≤ ix x 1 := mets_P hs hm _ _ (by omega)
theorem bytes178 : Try.prog.types[178].bytes = 16 := by kernel_rfl
theorem sumI_cons (k : Nat) (x : List D) (L : List (List D)) : sumI k (x :: L) = ix x k + sumI k L := by simp [sumI]
theorem fold43 (L : List (List D)) : ∀ (ds : List D) (rr : Ex × List D), (G43_8 L ds).run = some rr → FoldR (fun ds el => (roundRT C tab43 43 (rangeOf C.P 43 8) 0 4 [4, 5, 6, 8, 9, 32] h43_8 y124 ds el).run) y124.give (fun a b => headA h43_8 a = headA h43_8 b) ds L rr.1 rr.2 := by
  induction L with
  | nil =>
    intro ds rr h
    unfold G43_8 at h
    split at h
    · rename_i b n a d p c j s o
      obtain ⟨hp, h⟩ := need_some h
      cases h
      refine .nil ?_
      have e : headA h43_8 [b, n, a, d, p, c, j, s, o] = headA h43_8 [.b b.B, .i n.I, .i a.I, .i d.I, .l p.L, .l c.L, .l j.L, .i s.I, .l o.L] := rfl
      rw [e]
      simp only [sumI, List.map_nil, List.sum_nil, Int.add_zero, List.length_nil, outM, show ((0 : Nat) : Int) = 0 from rfl]
    · cases h
  | cons x L ih =>
    intro ds rr h
    unfold G43_8 at h
    split at h
    · rename_i b n a d p c j s o
      obtain ⟨hp, h⟩ := need_some h
      rw [yes_iff] at hp
      obtain ⟨⟨s1, s2⟩, hl, hy, ha, hd⟩ := hp
      have hx := hy x List.mem_cons_self
      have hys : ∀ y ∈ L, metP y := fun y hy' => hy y (List.mem_cons_of_mem _ hy')
      obtain ⟨hx1, hx2, hx3⟩ := hx
      generalize ix x 0 = g at hx1 hx2
      generalize ix x 1 = k at hx1 hx3
      subst hx1
      simp only [List.length_cons] at hl
      have hround := congrArg T.run (t43_r8 b n a d p c j s o (.i g) (.i k))
      have w1 : IntKind.i64.wrap (a.I + g) = a.I + g := wrap_id (by omega) (by omega)
      have w2 : IntKind.i64.wrap (d.I + k) = d.I + k := wrap_id (by omega) (by omega)
      simp only [I_i, w1, w2, List.length_cons, List.length_nil, Nat.zero_add, take1, bytes178] at hround
      refine .again (x' := []) (ds' := [.b b.B, .i n.I, .i (a.I + g), .i (d.I + k), .l p.L, .l c.L, .l j.L, .i (s.I.toNat + 1 : Nat), .l (o.L.take s.I.toNat ++ [[.i (a.I + g), .i (d.I + k)]])]) ?_ (fun h => by cases h) (ih _ _ ?_)
      · exact hround.trans (go_need rfl (go_need rfl (go_need rfl (go_need rfl (go_need rfl (go_need rfl (go_need rfl (go_false rfl (go_dec (by omega) rfl)))))))))
      · refine (need_yes ⟨⟨by simp only [I_i]; omega, by simp only [I_i, L_l, List.length_append, List.length_take, List.length_cons, List.length_nil]; omega⟩, by simp only [I_i]; omega, hys, ⟨by simp only [I_i]; omega, by simp only [I_i]; omega⟩, by simp only [I_i]; omega, by simp only [I_i]; omega⟩).trans ?_
        rw [← h]
        simp only [I_i, L_l, B_b, Int.toNat_natCast, sumI_cons, List.length_cons]
        have e0 : ix [D.i g, D.i k] 0 = g := rfl
        have e1 : ix [D.i g, D.i k] 1 = k := rfl
        have e2 : outM (a.I + g) (d.I + k) (o.L.take s.I.toNat ++ [[.i (a.I + g), .i (d.I + k)]]) (s.I.toNat + 1) L = outM a.I d.I o.L s.I.toNat ([.i g, .i k] :: L) := by
          cases L with
          | nil => rfl
          | cons y L =>
            simp only [outM]
            rw [List.take_of_length_le (by rw [List.length_append, List.length_take, List.length_cons, List.length_nil]; omega)]
            simp only [cumL, e0, e1, List.append_assoc, List.cons_append, List.nil_append]
        rw [e0, e1, e2, show ((s.I.toNat + 1 : Nat) : Int) + (L.length : Int) = s.I + ((L.length + 1 : Nat) : Int) by omega, Int.add_assoc, Int.add_assoc]
    · cases h
theorem ok43_8 (n : Nat) : CodeSim C (n + 5) 0 43 (rangeOf C.P 43 8).code none 0 (rangeS 0 [4, 5, 6, 8, 9, 32] (rangeOf C.P 43 8).1 it43_8 h43_8 G43_8) :=
  range_of hC (sp := sp43) (lp := lp43) (sw := sw43) (rg := rg43) (Y := y124) (yOK_mk _ _ _) ⟨ok41 n, ok90 n, trivial⟩ ⟨ok91 (n + 4), trivial⟩ 8 0 4 [] (by kernel_rfl) rfl (by kernel_rfl) (by exact ⟨by kernel_rfl, by kernel_rfl⟩) (fun k hk => by cases hk)
    (by kernel_rfl) (by kernel_rfl) (it := it43_8) ⟨ok124 (n + 2), trivial⟩ fun L ds rr h => fold43 L ds rr h
theorem cumL_len : ∀ (L : List (List D)) (a d : Int), (cumL a d L).length = L.length
  | [], _, _ => rfl
  | x :: L, a, d => by simp only [cumL, List.length_cons, cumL_len L]
theorem cumL_get : ∀ (L : List (List D)) (a d : Int) (j : Nat), j < L.length → (cumL a d L).getD j [] = [.i (a + sumI 0 (L.take (j + 1))), .i (d + sumI 1 (L.take (j + 1)))]
  | x :: L, a, d, 0, _ => by simp [cumL, sumI]
  | x :: L, a, d, j + 1, h => by
    have := cumL_get L (a + ix x 0) (d + ix x 1) j (by simpa using h)
    simp only [cumL, List.getD_cons_succ, this, List.take_succ_cons, sumI_cons, Int.add_assoc]
theorem sums_len {lo hi : Int} {r u p : List (List D)} (hm : manyP p) : ((sumsM lo hi r u p).length : Int) = lenR p + 1 := by
  have := mets_len (lo := lo) (hi := hi) (r := r) (u := u) hm
  simp only [sumsM, List.length_cons, cumL_len]
  omega
theorem sums_get {lo hi : Int} {r u p : List (List D)} {j : Nat} (h : j ≤ (mets lo hi r u p).length) : (sumsM lo hi r u p).getD j [] = [.i (sumI 0 ((mets lo hi r u p).take j)), .i (sumI 1 ((mets lo hi r u p).take j))] := by
  cases j with
  | zero => rfl
  | succ j =>
    unfold sumsM
    rw [List.getD_cons_succ, cumL_get _ _ _ _ (by omega), Int.zero_add, Int.zero_add]
theorem sumI_rng : ∀ (L : List (List D)) (k : Nat), k ≤ 1 → (∀ x ∈ L, metP x) → 0 ≤ sumI k L ∧ sumI k L ≤ 20000000 * L.length
  | [], k, _, _ => by simp [sumI]
  | x :: L, k, hk, h => by
    have h1 := sumI_rng L k hk fun y hy => h y (List.mem_cons_of_mem _ hy)
    have h2 := (h x List.mem_cons_self).2
    rw [sumI_cons, List.length_cons]
    have : k = 0 ∨ k = 1 := by omega
    rcases this with rfl | rfl <;> omega
theorem sums_P {lo hi : Int} {r u p : List (List D)} (hs : spP lo hi r u) (hm : manyP p) (hl : lenR p ≤ 100000) : sumsP (sumsM lo hi r u p) := by
  intro j
  have hlen := mets_len (lo := lo) (hi := hi) (r := r) (u := u) hm
  by_cases hj : j ≤ (mets lo hi r u p).length
  · rw [sums_get hj]
    have hx : ∀ x ∈ (mets lo hi r u p).take j, metP x := fun x hx => (mets_all hs hm x (List.mem_of_mem_take hx)).1
    have h0 := sumI_rng _ 0 (by omega) hx
    have h1 := sumI_rng _ 1 (by omega) hx
    have hl' : ((mets lo hi r u p).take j).length ≤ (mets lo hi r u p).length := by rw [List.length_take]; omega
    refine ⟨⟨h0.1, ?_⟩, h1.1, ?_⟩
    · show sumI 0 ((mets lo hi r u p).take j) ≤ _; omega
    · show sumI 1 ((mets lo hi r u p).take j) ≤ _; omega
  · have e : (sumsM lo hi r u p).getD j [] = [] := by
      rw [List.getD_eq_getElem?_getD, List.getElem?_eq_none (by simp only [sumsM, List.length_cons, cumL_len]; omega)]
      rfl
    rw [e]
    decide
theorem ok43 (n : Nat) : FnOK C (n + 6) 43 (mkF s43 G43) := by
  refine fn_ofR hC (sp := sp43) (lp := lp43) (sw := sw43) (rg := rg43) ⟨ok41 n, ok90 n, trivial⟩ ⟨ok91 (n + 4), trivial⟩ (by kernel_rfl) [] [8] (by kernel_rfl) rfl (by kernel_rfl) (by kernel_rfl) (fun k hk => by cases hk) (fun k hk L hL => by
    simp at hk; subst hk; cases hL; exact ok43_8 n) fun ds rr h => ?_
  unfold G43 at h
  split at h
  · rename_i p c j lo hi r u
    refine (congrArg T.run (t43 p c j lo hi r u)).trans ?_
    generalize fnT C tab43 43 s43 [p, c, j, lo, hi, r, u] = XX
    cases hr : roadOk p.L c.L j.L with
    | false =>
      rw [hr, Bool.false_and] at h
      exact go_false rfl (go_true rfl h)
    | true =>
      rw [hr, Bool.true_and] at h
      refine go_true rfl (go_false rfl ?_)
      cases hs : speedsOk lo.I hi.I r.L u.L with
      | false =>
        rw [hs] at h
        exact go_false rfl (go_true rfl h)
      | true =>
        rw [hs] at h
        obtain ⟨hm, -, -, hl, -⟩ := road_of (p := p.L) (c := c.L) (j := j.L) hr
        have hmp := hm.2.1
        have hlen := mets_len (lo := lo.I) (hi := hi.I) (r := r.L) (u := u.L) hm
        have hlb : 1 ≤ lenR p.L := by
          have h1 := lenFrom_step (p := p.L) (k := 0) (by have := hm.1; omega)
          have h2 := lenFrom_pos (l := p.L) (p.L.length - (0 + 1)) (0 + 1) fun j _ y => by have := piece_rng hm.2.2 (k := j) (by omega); omega
          have h3 := piece_rng hm.2.2 (k := 0) (by have := hm.1; omega)
          unfold lenR
          rw [Nat.sub_zero] at h1
          omega
        have w1 : IntKind.i64.wrap (lenR p.L + 1) = lenR p.L + 1 := wrap_id (by omega) (by omega)
        have z1 : Int.toNat 1 = 1 := rfl
        have hall := mets_all (lo := lo.I) (hi := hi.I) (r := r.L) (u := u.L) hs hm
        have hout : outM 0 0 (List.replicate (lenR p.L + 1).toNat [.i 0, .i 0]) 1 (mets lo.I hi.I r.L u.L p.L) = sumsM lo.I hi.I r.L u.L p.L := by
          unfold sumsM
          cases hmt : mets lo.I hi.I r.L u.L p.L with
          | nil => rw [hmt] at hlen; simp at hlen; omega
          | cons x L =>
            simp only [outM]
            rw [show (lenR p.L + 1).toNat = (lenR p.L).toNat + 1 by omega, List.replicate_succ]
            rfl
        have hsl := sums_len (lo := lo.I) (hi := hi.I) (r := r.L) (u := u.L) hm
        have htk : (sumsM lo.I hi.I r.L u.L p.L).take (lenR p.L + 1).toNat = sumsM lo.I hi.I r.L u.L p.L := List.take_of_length_le (by omega)
        simp only [w1, z1, bytes178, List.length_replicate, hout, htk, show ((1 : Nat) : Int) = 1 from rfl]
        refine go_true rfl (go_false rfl (go_dec ⟨by omega, by omega, by omega, by omega⟩ (go_yes ⟨hs, hm⟩ (go_yes ⟨⟨by omega, by omega⟩, by omega, fun x hx => (hall x hx).1, ⟨by omega, by omega⟩, by omega, by omega⟩ (go_dec (by omega) (go_dec (by omega) (go_dec (by omega) ?_)))))))
        exact h
  · cases h
theorem ok12 (n : Nat) : FnOK C (n + 7) 12 (mkF s12 G12) := by
  refine fn_ofS hC (sp := sp12) (lp := lp12) (sw := sw12) ⟨ok43 n, ok44 (n + 4), ok45 (n + 5), trivial⟩ trivial (by kernel_rfl) [] (by kernel_rfl) rfl (fun k hk => by cases hk) fun ds rr h => ?_
  unfold G12 at h
  split at h
  · rename_i p c j lo hi r u a b
    refine (congrArg T.run (t12 p c j lo hi r u a b)).trans ?_
    generalize fnT C tab12 12 s12 [p, c, j, lo, hi, r, u, a, b] = XX
    unfold betwB at h
    cases hb : (roadOk p.L c.L j.L && speedsOk lo.I hi.I r.L u.L) with
    | false =>
      rw [hb, Bool.false_and, Bool.false_and, Bool.false_and] at h
      exact go_false rfl (go_true rfl h)
    | true =>
      rw [hb, Bool.true_and] at h
      rw [Bool.and_eq_true] at hb
      obtain ⟨hr, hs⟩ := hb
      obtain ⟨hm, -, -, hl, -⟩ := road_of (p := p.L) (c := c.L) (j := j.L) hr
      have hsl := sums_len (lo := lo.I) (hi := hi.I) (r := r.L) (u := u.L) hm
      have hsp := sums_P (lo := lo.I) (hi := hi.I) (r := r.L) (u := u.L) hs hm hl
      have e1 : ((sumsM lo.I hi.I r.L u.L p.L).length : Int) - 1 = lenR p.L := by omega
      simp only [e1]
      refine go_true rfl (go_false rfl (go_yes (by omega) ?_))
      cases ha : within a.I 0 (lenR p.L) with
      | false =>
        rw [ha, Bool.false_and, Bool.false_and] at h
        exact go_true rfl h
      | true =>
        rw [ha, Bool.true_and] at h
        refine go_false rfl (go_yes (by omega) ?_)
        cases hb : within b.I 0 (lenR p.L) with
        | false =>
          rw [hb, Bool.false_and] at h
          exact go_true rfl h
        | true =>
          rw [hb, Bool.true_and] at h
          have ha := Lite.within_iff.1 ha
          have hb := Lite.within_iff.1 hb
          refine go_false rfl (go_if (fun hc => ?_) fun hc => ?_)
          · rw [run_ite, if_neg (by simp; omega)] at h
            exact h
          · rw [run_ite, if_pos (by simp; omega)] at h
            refine go_yes ⟨hsp, .inl (by trivial), by omega, by omega⟩ (go_yes ⟨hsp, .inr (by trivial), by omega, by omega⟩ ?_)
            exact h
  · cases h
end Go.Proofs.Ytgoedfonmocafaa
namespace Go.Proofs.Ytgoedfonmocafaa
open Go.Lite
def s95 : Sig := ⟨[.agg [.k (.int .i64), .k (.int .i64), .k (.int .i64)]], [(.k .bool, [])]⟩
def s127 : Sig := ⟨[.k (.ro [.int .i64, .int .i64, .int .i64]), .fn 95 [] []], [(.k (.int .i64), [])]⟩
def l127_2 : LSig := mkLS [0, 1, 7, 8] [(19, [(0, .k (.ro [.int .i64, .int .i64, .int .i64])), (1, .fn 95 [] []), (7, .k (.int .i64)), (8, .k (.int .i64))], [])] [(.ret, [4], [(19, [(4, .k (.int .i64))], [])]), (.exit 0, [], [(19, [], [])])]
def s94 : Sig := ⟨[.k (.ro [.int .i64, .int .i64, .int .i64]), .fn 95 [] []], [(.k .bool, [])]⟩
def s47 : Sig := ⟨[.k (.int .i64), .k (.int .i64), .k (.int .i64), .k (.ro [.int .i64, .int .i64, .int .i64])], [(.k .bool, [])]⟩
def s48 : Sig := ⟨[.k (.int .i64), .k (.int .i64), .k (.int .i64), .k (.ro [.int .i64, .int .i64, .int .i64]), .k (.ro [.int .i64])], [(.k .bool, [])]⟩
def l48_3 : LSig := mkLS [0, 1, 4, 11, 12, 17, 18, 19] [(51, [(0, .k (.int .i64)), (1, .k (.int .i64)), (4, .k (.ro [.int .i64])), (11, .k (.int .i64)), (12, .k (.int .i64)), (17, .k (.ro [.int .i64, .int .i64, .int .i64])), (18, .k (.int .i64)), (19, .k (.int .i64))], [])] [(.ret, [10], [(51, [(10, .k .bool)], [])]), (.exit 0, [], [(51, [], [])])]
def s13 : Sig := ⟨[.k (.int .i64), .k (.int .i64), .k (.int .i64), .k (.ro [.int .i64, .int .i64, .int .i64])], [(.k .bool, [])]⟩
def l13_4 : LSig := mkLS [3, 9] [(72, [(3, .k (.ro [.int .i64, .int .i64, .int .i64])), (9, .k (.int .i64))], [])] [(.ret, [8], [(72, [(8, .k .bool)], [])]), (.exit 0, [], [(72, [], [])])]
def s14 : Sig := ⟨[.k (.int .i64), .k (.int .i64), .k (.int .i64), .k (.ro [.int .i64, .int .i64, .int .i64])], [(.tup [.nils, .k (.int .i64)], []), (.tup [.sl 0 1, .k (.int .i64)], [.row [.int .i64]])]⟩
def l14_8 : LSig := mkLS [0, 1, 2, 3, 10, 11, 12, 13, 34, 35, 36] [(114, [(0, .k (.int .i64)), (1, .k (.int .i64)), (2, .k (.int .i64)), (3, .k (.ro [.int .i64, .int .i64, .int .i64])), (10, .k (.int .i64)), (11, .sl 0 1), (12, .k (.int .i64)), (13, .k (.int .i64)), (34, .k (.ro [.int .i64, .int .i64, .int .i64])), (35, .k (.int .i64)), (36, .k (.int .i64))], [.row [.int .i64]])] [(.exit 0, [0, 1, 2, 3, 10, 11], [(114, [(0, .k (.int .i64)), (1, .k (.int .i64)), (2, .k (.int .i64)), (3, .k (.ro [.int .i64, .int .i64, .int .i64])), (10, .k (.int .i64)), (11, .sl 0 1)], [.row [.int .i64]])])]
def l14_15 : LSig := mkLS [0, 1, 2, 3, 10, 11, 16] [(114, [(0, .k (.int .i64)), (1, .k (.int .i64)), (2, .k (.int .i64)), (3, .k (.ro [.int .i64, .int .i64, .int .i64])), (10, .k (.int .i64)), (11, .sl 0 1), (16, .k (.int .i64))], [.row [.int .i64]])] [(.exit 2, [0, 1, 2, 3, 10, 11], [(114, [(0, .k (.int .i64)), (1, .k (.int .i64)), (2, .k (.int .i64)), (3, .k (.ro [.int .i64, .int .i64, .int .i64])), (10, .k (.int .i64)), (11, .sl 0 1)], [.row [.int .i64]])])]
def l14_21 : LSig := mkLS [0, 1, 2, 3, 17, 18, 81, 82, 83] [(114, [(0, .k (.int .i64)), (1, .k (.int .i64)), (2, .k (.int .i64)), (3, .k (.ro [.int .i64, .int .i64, .int .i64])), (17, .sl 0 1), (18, .k (.int .i64)), (81, .sl 1 1), (82, .k (.int .i64)), (83, .k (.int .i64))], [.row [.int .i64], .row [.int .i64]])] [(.ret, [8, 9], [(114, [(8, .nils), (9, .k (.int .i64))], [])]), (.exit 4, [0, 1, 2, 3, 17], [(114, [(0, .k (.int .i64)), (1, .k (.int .i64)), (2, .k (.int .i64)), (3, .k (.ro [.int .i64, .int .i64, .int .i64])), (17, .sl 0 1)], [.row [.int .i64]])])]
end Go.Proofs.Ytgoedfonmocafaa
namespace Go.Proofs.Ytgoedfonmocafaa
open Go.Lite
noncomputable section
def legP (a b c : Int) : Bool := within a 0 b && decide (b ≤ 1000000) && within c 0 1000000
def legOk (c : List D) : Bool := legP (ix c 0) (ix c 1) (ix c 2)
def legAt (l : List (List D)) (j : Nat) : Bool := legOk (l.getD j [])
def tankOk (t r s : Int) (l : List (List D)) : Bool := within t 1 1000000 && within r 0 t && within s 0 t && decide (l.length ≤ 50) && allFrom (legAt l) 0 l.length
def amOk (l am : List (List D)) (j : Nat) : Bool := within (ix (am.getD j []) 0) 0 (ix (l.getD j []) 2)
def safeFrom (t r : Int) (l am : List (List D)) : Nat → Nat → Int → Int → Bool
  | _, 0, _, _ => true
  | i, k + 1, lo, hi => if hi + ix (am.getD i []) 0 > t then false else if lo + ix (am.getD i []) 0 - ix (l.getD i []) 1 < r then false
    else safeFrom t r l am (i + 1) k (lo + ix (am.getD i []) 0 - ix (l.getD i []) 1) (hi + ix (am.getD i []) 0 - ix (l.getD i []) 0)
def sameAt (a b : List (List D)) (j : Nat) : Bool := ix (a.getD j []) 0 == ix (b.getD j []) 0
def sameL (a b : List (List D)) : Bool := decide (a.length = b.length) && allFrom (sameAt a b) 0 a.length
def tankPre (t r : Int) (l am : List (List D)) : Prop := 0 ≤ r ∧ t ≤ 1000000 ∧ am.length = l.length ∧ l.length ≤ 50 ∧ allFrom (legAt l) 0 l.length = true
def bounds (t lo hi : Int) : Prop := 0 ≤ lo ∧ lo ≤ hi ∧ hi ≤ t
def G95 (ds : List D) : T (List D) := match ds with
  | [a, b, c] => .leaf [.b (!legP a.I b.I c.I)]
  | _ => .fail
def G127 (ds : List D) : T (List D) := match ds with
  | [l] => .need (yes (l.L.length < big)) (.leaf [.i (firstFrom (fun j => !legAt l.L j) 0 l.L.length)])
  | _ => .fail
def G127_2 (ds : List D) : T (Ex × List D) := match ds with
  | [l, n, i] => .need (yes (l.L.length < big ∧ n.I = l.L.length ∧ 0 ≤ i.I ∧ i.I ≤ n.I))
      (.ite (decide (firstFrom (fun j => !legAt l.L j) i.I.toNat (l.L.length - i.I.toNat) ≥ 0)) (.leaf (.ret, [.i (firstFrom (fun j => !legAt l.L j) i.I.toNat (l.L.length - i.I.toNat))])) (.leaf (.exit 0, [])))
  | _ => .fail
def G94 (ds : List D) : T (List D) := match ds with
  | [l] => .need (yes (l.L.length < big)) (.leaf [.b (!allFrom (legAt l.L) 0 l.L.length)])
  | _ => .fail
def G47 (ds : List D) : T (List D) := match ds with
  | [t, r, s, l] => .need (yes (l.L.length < big)) (.leaf [.b (tankOk t.I r.I s.I l.L)])
  | _ => .fail
def G48 (ds : List D) : T (List D) := match ds with
  | [t, r, s, l, am] => .need (yes (tankPre t.I r.I l.L am.L ∧ allFrom (amOk l.L am.L) 0 l.L.length = true ∧ bounds t.I s.I s.I)) (.leaf [.b (safeFrom t.I r.I l.L am.L 0 l.L.length s.I s.I)])
  | _ => .fail
def G48_3 (ds : List D) : T (Ex × List D) := match ds with
  | [t, r, am, lo, hi, l, n, i] => .need (yes (tankPre t.I r.I l.L am.L ∧ allFrom (amOk l.L am.L) 0 l.L.length = true ∧ bounds t.I lo.I hi.I ∧ n.I = l.L.length ∧ 0 ≤ i.I ∧ i.I ≤ n.I))
      (.ite (safeFrom t.I r.I l.L am.L i.I.toNat (l.L.length - i.I.toNat) lo.I hi.I) (.leaf (.exit 0, [])) (.leaf (.ret, [.b false])))
  | _ => .fail
def G13 (ds : List D) : T (List D) := match ds with
  | [t, r, s, l] => .leaf [.b (tankOk t.I r.I s.I l.L)]
  | _ => .fail
def G13_4 (ds : List D) : T (Ex × List D) := match ds with
  | [l, i] => .need (yes (l.L.length < big ∧ 0 ≤ i.I ∧ i.I ≤ l.L.length))
      (.ite (allFrom (legAt l.L) i.I.toNat (l.L.length - i.I.toNat)) (.leaf (.exit 0, [])) (.leaf (.ret, [.b false])))
  | _ => .fail
end
end Go.Proofs.Ytgoedfonmocafaa
namespace Go.Proofs.Ytgoedfonmocafaa
open Go.Lite
noncomputable section
def mkI (xs : List Int) : List (List D) := xs.map fun n => [.i n]
def tabI (n : Nat) (f : Nat → Int) : List (List D) := mkI ((List.range n).map f)
def leastOf (l : List (List D)) (j : Nat) : Int := ix (l.getD j []) 0
def mostOf (l : List (List D)) (j : Nat) : Int := ix (l.getD j []) 1
def fillOf (l : List (List D)) (j : Nat) : Int := ix (l.getD j []) 2
def needAt (l : List (List D)) (r s : Int) : Nat → Int
  | 0 => r - s
  | j + 1 => needAt l r s j + mostOf l j
def upAt (l : List (List D)) (r s : Int) : Nat → Int
  | 0 => 0
  | j + 1 => max (upAt l r s j) (needAt l r s (j + 1))
def downAt (l : List (List D)) (r s : Int) : Nat → Nat → Int
  | 0, j => upAt l r s (j + 1)
  | k + 1, j => max (upAt l r s (j + 1)) (downAt l r s k (j + 1) - fillOf l (j + 1))
def sumAt (l : List (List D)) (r s : Int) (j : Nat) : Int := downAt l r s (l.length - 1 - j) j
def outAt (l : List (List D)) (r s : Int) : Nat → Int
  | 0 => sumAt l r s 0
  | j + 1 => sumAt l r s (j + 1) - sumAt l r s j
def beforeAt (l : List (List D)) (r s : Int) : Nat → Int
  | 0 => 0
  | j + 1 => sumAt l r s j
def upTo (l : List (List D)) (r s : Int) (i : Nat) : List (List D) := tabI l.length fun j => if j < i then upAt l r s (j + 1) else 0
def downTo (l : List (List D)) (r s : Int) (i : Int) : List (List D) := tabI l.length fun j => if i < (j : Int) then sumAt l r s j else upAt l r s (j + 1)
def outTo (l : List (List D)) (r s : Int) (i : Nat) : List (List D) := tabI l.length fun j => if j < i then outAt l r s j else 0
def sums (l : List (List D)) (r s : Int) : List (List D) := tabI l.length (sumAt l r s)
def outs (l : List (List D)) (r s : Int) : List (List D) := tabI l.length (outAt l r s)
def outOk (l : List (List D)) (r s : Int) (j : Nat) : Bool := decide (outAt l r s j ≤ fillOf l j)
def fuelOk (t r s : Int) (l : List (List D)) : Bool := allFrom (outOk l r s) 0 l.length && safeFrom t r l (outs l r s) 0 l.length s s
def tankP (t r s : Int) (l : List (List D)) : Prop := tankOk t r s l = true
def G14 (ds : List D) : T (List D) := match ds with
  | [t, r, s, l] => .need (yes (l.L.length < big)) (.ite (tankOk t.I r.I s.I l.L) (.ite (fuelOk t.I r.I s.I l.L) (.leaf [.i 1, .i l.L.length, .i 0, .l (outs l.L r.I s.I)]) (.leaf [.i 0, .i 5])) (.leaf [.i 0, .i 2]))
  | _ => .fail
def G14_8 (ds : List D) : T (Ex × List D) := match ds with
  | [t, r, s, l, n, m, need, most, l', n', i, row] => .need (yes (tankP t.I r.I s.I l.L ∧ n.I = l.L.length ∧ m.I = l.L.length ∧ l'.L = l.L ∧ n'.I = l.L.length ∧ 0 ≤ i.I ∧ i.I ≤ l.L.length ∧
        need.I = needAt l.L r.I s.I i.I.toNat ∧ most.I = upAt l.L r.I s.I i.I.toNat ∧ row.L = upTo l.L r.I s.I i.I.toNat))
      (.leaf (.exit 0, [.i t.I, .i r.I, .i s.I, .l l.L, .i l.L.length, .i l.L.length, .l (upTo l.L r.I s.I l.L.length)]))
  | _ => .fail
def G14_15 (ds : List D) : T (Ex × List D) := match ds with
  | [t, r, s, l, n, m, i, row] => .need (yes (tankP t.I r.I s.I l.L ∧ n.I = l.L.length ∧ m.I = l.L.length ∧ -2 ≤ i.I ∧ i.I ≤ l.L.length - 2 ∧ row.L = downTo l.L r.I s.I i.I))
      (.leaf (.exit 2, [.i t.I, .i r.I, .i s.I, .l l.L, .i l.L.length, .i l.L.length, .l (sums l.L r.I s.I)]))
  | _ => .fail
def G14_21 (ds : List D) : T (Ex × List D) := match ds with
  | [t, r, s, l, m, b, m', n, i, row, row'] => .need (yes (tankP t.I r.I s.I l.L ∧ m.I = l.L.length ∧ m'.I = l.L.length ∧ n.I = l.L.length ∧ 0 ≤ i.I ∧ i.I ≤ l.L.length ∧ b.I = beforeAt l.L r.I s.I i.I.toNat ∧
        row.L = outTo l.L r.I s.I i.I.toNat ∧ row'.L = sums l.L r.I s.I))
      (.ite (allFrom (outOk l.L r.I s.I) i.I.toNat (l.L.length - i.I.toNat)) (.leaf (.exit 4, [.i t.I, .i r.I, .i s.I, .l l.L, .i l.L.length, .l (outs l.L r.I s.I)])) (.leaf (.ret, [.i 5])))
  | _ => .fail
end
end Go.Proofs.Ytgoedfonmocafaa
namespace Go.Proofs.Ytgoedfonmocafaa
open Go.Lite
noncomputable def sp95 : SpL := [(64, mkF s64 G64)]
noncomputable def lp95 : LpL := []
noncomputable def sw95 : SwL := []
noncomputable def tab95 : Tab := mkTab sp95 lp95 sw95
noncomputable def sp127 : SpL := [(95, mkF s95 G95)]
noncomputable def lp127 : LpL := [(2, mkL l127_2 G127_2)]
noncomputable def sw127 : SwL := []
noncomputable def tab127 : Tab := mkTab sp127 lp127 sw127
noncomputable def sp94 : SpL := [(127, mkF s127 G127), (95, mkF s95 G95)]
noncomputable def lp94 : LpL := []
noncomputable def sw94 : SwL := []
noncomputable def tab94 : Tab := mkTab sp94 lp94 sw94
noncomputable def sp47 : SpL := [(64, mkF s64 G64), (94, mkF s94 G94)]
noncomputable def lp47 : LpL := []
noncomputable def sw47 : SwL := []
noncomputable def tab47 : Tab := mkTab sp47 lp47 sw47
noncomputable def sp48 : SpL := []
noncomputable def lp48 : LpL := [(3, mkL l48_3 G48_3)]
noncomputable def sw48 : SwL := []
noncomputable def tab48 : Tab := mkTab sp48 lp48 sw48
noncomputable def sp13 : SpL := [(46, mkF s46 G46)]
noncomputable def lp13 : LpL := [(4, mkL l13_4 G13_4)]
noncomputable def sw13 : SwL := []
noncomputable def tab13 : Tab := mkTab sp13 lp13 sw13
noncomputable def sp14 : SpL := [(47, mkF s47 G47), (48, mkF s48 G48)]
noncomputable def lp14 : LpL := [(8, mkL l14_8 G14_8), (15, mkL l14_15 G14_15), (21, mkL l14_21 G14_21)]
noncomputable def sw14 : SwL := []
noncomputable def tab14 : Tab := mkTab sp14 lp14 sw14
end Go.Proofs.Ytgoedfonmocafaa
namespace Go.Proofs.Ytgoedfonmocafaa
open Go.Lite
set_option linter.unusedVariables false
set_option maxRecDepth 100000
theorem t95 (a b c : D) : fnT C tab95 95 s95 [a, b, c] =
  T.ite (!within a.I (0 : Int) b.I) (T.leaf [D.b true]) (T.ite (decide (b.I > (1000000 : Int))) (T.leaf [D.b true]) (T.leaf [D.b !within c.I (0 : Int) (1000000 : Int)])) := by kernel_rfl
theorem t127 (a : D) : fnT C tab127 127 s127 [a] =
  T.need (yes (a.L.length < big ∧ (a.L.length : Int) = (a.L.length : Int) ∧ (0 : Int) ≤ (0 : Int) ∧ (0 : Int) ≤ (a.L.length : Int))) (T.ite (decide (firstFrom (fun j => !legAt a.L j) (Int.toNat (0 : Int)) (a.L.length - Int.toNat (0 : Int)) ≥ (0 : Int))) (T.leaf [D.i (firstFrom (fun j => !legAt a.L j) (Int.toNat (0 : Int)) (a.L.length - Int.toNat (0 : Int)))]) (T.leaf [D.i (-1 : Int)])) := by kernel_rfl
theorem t127_2 (a b c : D) : roundT C tab127 127 (loopOf C.P 127 2) l127_2 [a, b, c] =
  T.ite (decide (c.I < b.I)) (T.need (decide ((0 : Int) ≤ c.I ∧ c.I < (a.L.length : Int))) (T.ite (!legP (D.I (List.getD (List.getD a.L c.I.toNat []) 0 default)) (D.I (List.getD (List.getD a.L c.I.toNat []) (0 + 1) default)) (D.I (List.getD (List.getD a.L c.I.toNat []) (0 + 1 + 1) default))) (T.leaf (Rd.out Ex.ret [D.i c.I])) (T.leaf (Rd.again [D.l a.L, D.i b.I, D.i (IntKind.wrap IntKind.i64 (c.I + (1 : Int)))])))) (T.leaf (Rd.out (Ex.exit 0) [])) := by kernel_rfl
theorem t94 (a : D) : fnT C tab94 94 s94 [a] =
  T.need (yes (a.L.length < big)) (T.leaf [D.b (decide (firstFrom (fun j => !legAt a.L j) 0 a.L.length ≥ (0 : Int)))]) := by kernel_rfl
theorem t47 (a b c d : D) : fnT C tab47 47 s47 [a, b, c, d] =
  T.ite (!within a.I (1 : Int) (1000000 : Int)) (T.leaf [D.b false]) (T.ite (!within b.I (0 : Int) a.I) (T.leaf [D.b false]) (T.ite (!within c.I (0 : Int) a.I) (T.leaf [D.b false]) (T.ite (decide ((d.L.length : Int) > (50 : Int))) (T.leaf [D.b false]) (T.need (yes (d.L.length < big)) (T.leaf [D.b !!allFrom (legAt d.L) 0 d.L.length]))))) := by kernel_rfl
theorem t48 (a b c d e : D) : fnT C tab48 48 s48 [a, b, c, d, e] =
  T.need (yes (tankPre a.I b.I d.L e.L ∧ allFrom (amOk d.L e.L) 0 d.L.length = true ∧ bounds a.I c.I c.I ∧ (d.L.length : Int) = (d.L.length : Int) ∧ (0 : Int) ≤ (0 : Int) ∧ (0 : Int) ≤ (d.L.length : Int))) (T.ite (safeFrom a.I b.I d.L e.L (Int.toNat (0 : Int)) (d.L.length - Int.toNat (0 : Int)) c.I c.I) (T.leaf [D.b true]) (T.leaf [D.b false])) := by kernel_rfl
theorem t48_3 (a b c d e f g h : D) : roundT C tab48 48 (loopOf C.P 48 3) l48_3 [a, b, c, d, e, f, g, h] =
  T.ite (decide (h.I < g.I)) (T.need (decide ((0 : Int) ≤ h.I ∧ h.I < (f.L.length : Int))) (T.need (decide ((0 : Int) ≤ h.I ∧ h.I < (c.L.length : Int))) (T.need (decide ((0 : Int) ≤ h.I ∧ h.I < (c.L.length : Int))) (T.ite (decide (IntKind.wrap IntKind.i64 (e.I + D.I (List.getD (List.getD c.L h.I.toNat []) 0 default)) > a.I)) (T.leaf (Rd.out Ex.ret [D.b false])) (T.ite (decide (IntKind.wrap IntKind.i64 (IntKind.wrap IntKind.i64 (d.I + D.I (List.getD (List.getD c.L h.I.toNat []) 0 default)) - D.I (List.getD (List.getD f.L h.I.toNat []) (0 + 1) default)) < b.I)) (T.leaf (Rd.out Ex.ret [D.b false])) (T.leaf (Rd.again [D.i a.I, D.i b.I, D.l c.L, D.i (IntKind.wrap IntKind.i64 (IntKind.wrap IntKind.i64 (d.I + D.I (List.getD (List.getD c.L h.I.toNat []) 0 default)) - D.I (List.getD (List.getD f.L h.I.toNat []) (0 + 1) default))), D.i (IntKind.wrap IntKind.i64 (IntKind.wrap IntKind.i64 (e.I + D.I (List.getD (List.getD c.L h.I.toNat []) 0 default)) - D.I (List.getD (List.getD f.L h.I.toNat []) 0 default))), D.l f.L, D.i g.I, D.i (IntKind.wrap IntKind.i64 (h.I + (1 : Int)))]))))))) (T.leaf (Rd.out (Ex.exit 0) [])) := by kernel_rfl
theorem t13 (a b c d : D) : fnT C tab13 13 s13 [a, b, c, d] =
  T.ite (!within a.I (1 : Int) (1000000 : Int)) (T.leaf [D.b false]) (T.ite (!within b.I (0 : Int) a.I) (T.leaf [D.b false]) (T.ite (!within c.I (0 : Int) a.I) (T.leaf [D.b false]) (T.ite (decide ((d.L.length : Int) > (50 : Int))) (T.leaf [D.b false]) (T.need (yes (d.L.length < big ∧ (0 : Int) ≤ (0 : Int) ∧ (0 : Int) ≤ (d.L.length : Int))) (T.ite (allFrom (legAt d.L) (Int.toNat (0 : Int)) (d.L.length - Int.toNat (0 : Int))) (T.leaf [D.b true]) (T.leaf [D.b false])))))) := by kernel_rfl
theorem t13_4 (a b : D) : roundT C tab13 13 (loopOf C.P 13 4) l13_4 [a, b] =
  T.ite (decide (b.I < (a.L.length : Int))) (T.need (decide ((0 : Int) ≤ b.I ∧ b.I < (a.L.length : Int))) (T.ite (decide (D.I (List.getD (List.getD a.L b.I.toNat []) 0 default) < (0 : Int))) (T.leaf (Rd.out Ex.ret [D.b false])) (T.need (decide ((0 : Int) ≤ b.I ∧ b.I < (a.L.length : Int))) (T.need (decide ((0 : Int) ≤ b.I ∧ b.I < (a.L.length : Int))) (T.ite (decide (D.I (List.getD (List.getD a.L b.I.toNat []) 0 default) > D.I (List.getD (List.getD a.L b.I.toNat []) (0 + 1) default))) (T.leaf (Rd.out Ex.ret [D.b false])) (T.need (decide ((0 : Int) ≤ b.I ∧ b.I < (a.L.length : Int))) (T.ite (decide (D.I (List.getD (List.getD a.L b.I.toNat []) (0 + 1) default) > (1000000 : Int))) (T.leaf (Rd.out Ex.ret [D.b false])) (T.need (decide ((0 : Int) ≤ b.I ∧ b.I < (a.L.length : Int))) (T.ite (!within (D.I (List.getD (List.getD a.L b.I.toNat []) (0 + 1 + 1) default)) (0 : Int) (1000000 : Int)) (T.leaf (Rd.out Ex.ret [D.b false])) (T.leaf (Rd.again [D.l a.L, D.i (IntKind.wrap IntKind.i64 (b.I + (1 : Int)))]))))))))))) (T.leaf (Rd.out (Ex.exit 0) [])) := by kernel_rfl
theorem t14 (a b c d : D) : fnT C tab14 14 s14 [a, b, c, d] =
  T.need (yes (d.L.length < big)) (T.ite (!tankOk a.I b.I c.I d.L) (T.leaf [D.i 0, D.i 2]) (T.need (decide ((0 : Int) ≤ (d.L.length : Int) ∧ (d.L.length : Int) = (d.L.length : Int) ∧ (d.L.length : Int) ≤ (2 : Int) ^ 40 ∧ (↑Try.prog.types[3].bytes : Int) * (d.L.length : Int) ≤ (2 : Int) ^ 46)) (T.need (yes (tankP a.I b.I c.I d.L ∧ (d.L.length : Int) = (d.L.length : Int) ∧ (↑(List.length (List.replicate (Int.toNat (d.L.length : Int)) [D.i 0])) : Int) = (d.L.length : Int) ∧ d.L = d.L ∧ (d.L.length : Int) = (d.L.length : Int) ∧ (0 : Int) ≤ (0 : Int) ∧ (0 : Int) ≤ (d.L.length : Int) ∧ IntKind.wrap IntKind.i64 (b.I - c.I) = needAt d.L b.I c.I (Int.toNat (0 : Int)) ∧ (0 : Int) = upAt d.L b.I c.I (Int.toNat (0 : Int)) ∧ List.replicate (Int.toNat (d.L.length : Int)) [D.i 0] = upTo d.L b.I c.I (Int.toNat (0 : Int)))) (T.need (yes (tankP a.I b.I c.I d.L ∧ (d.L.length : Int) = (d.L.length : Int) ∧ (↑(Int.toNat (d.L.length : Int)) : Int) = (d.L.length : Int) ∧ (-2 : Int) ≤ IntKind.wrap IntKind.i64 ((d.L.length : Int) - (2 : Int)) ∧ IntKind.wrap IntKind.i64 ((d.L.length : Int) - (2 : Int)) ≤ (d.L.length : Int) - (2 : Int) ∧ upTo d.L b.I c.I d.L.length = downTo d.L b.I c.I (IntKind.wrap IntKind.i64 ((d.L.length : Int) - (2 : Int))))) (T.need (decide ((0 : Int) ≤ (d.L.length : Int) ∧ (d.L.length : Int) = (d.L.length : Int) ∧ (d.L.length : Int) ≤ (2 : Int) ^ 40 ∧ (↑Try.prog.types[3].bytes : Int) * (d.L.length : Int) ≤ (2 : Int) ^ 46)) (T.need (yes (tankP a.I b.I c.I d.L ∧ (↑(List.length (List.replicate (Int.toNat (d.L.length : Int)) [D.i 0])) : Int) = (d.L.length : Int) ∧ (↑(Int.toNat (d.L.length : Int)) : Int) = (d.L.length : Int) ∧ (↑(Int.toNat (d.L.length : Int)) : Int) = (d.L.length : Int) ∧ (0 : Int) ≤ (0 : Int) ∧ (0 : Int) ≤ (d.L.length : Int) ∧ (0 : Int) = beforeAt d.L b.I c.I (Int.toNat (0 : Int)) ∧ List.replicate (Int.toNat (d.L.length : Int)) [D.i 0] = outTo d.L b.I c.I (Int.toNat (0 : Int)) ∧ sums d.L b.I c.I = sums d.L b.I c.I)) (T.ite (allFrom (outOk d.L b.I c.I) (Int.toNat (0 : Int)) (d.L.length - Int.toNat (0 : Int))) (T.need (decide (Int.toNat (d.L.length : Int) ≤ List.length (outs d.L b.I c.I))) (T.need (yes (tankPre a.I b.I d.L (List.take (Int.toNat (d.L.length : Int)) (outs d.L b.I c.I)) ∧ allFrom (amOk d.L (List.take (Int.toNat (d.L.length : Int)) (outs d.L b.I c.I))) 0 d.L.length = true ∧ bounds a.I c.I c.I)) (T.ite (!safeFrom a.I b.I d.L (List.take (Int.toNat (d.L.length : Int)) (outs d.L b.I c.I)) 0 d.L.length c.I c.I) (T.leaf [D.i 0, D.i 5]) (T.leaf [D.i 1, D.i (↑(Int.toNat (d.L.length : Int)) : Int), D.i 0, D.l (outs d.L b.I c.I)])))) (T.leaf [D.i 0, D.i 5])))))))) := by kernel_rfl
theorem t14_8 (a b c d e f g h i j k l : D) : roundT C tab14 14 (loopOf C.P 14 8) l14_8 [a, b, c, d, e, f, g, h, i, j, k, l] =
  T.ite (decide (k.I < j.I)) (T.need (decide ((0 : Int) ≤ k.I ∧ k.I < (i.L.length : Int))) (T.need (decide ((0 : Int) ≤ k.I ∧ k.I < (f.I.toNat : Int))) (T.need (decide (k.I.toNat < l.L.length)) (T.leaf (Rd.again [D.i a.I, D.i b.I, D.i c.I, D.l d.L, D.i e.I, D.i (f.I.toNat : Int), D.i (IntKind.wrap IntKind.i64 (g.I + D.I (List.getD (List.getD i.L k.I.toNat []) (0 + 1) default))), D.i (maxI h.I (IntKind.wrap IntKind.i64 (g.I + D.I (List.getD (List.getD i.L k.I.toNat []) (0 + 1) default)))), D.l i.L, D.i j.I, D.i (IntKind.wrap IntKind.i64 (k.I + (1 : Int))), D.l (List.set l.L k.I.toNat (updC (List.getD l.L k.I.toNat []) [D.i (maxI h.I (IntKind.wrap IntKind.i64 (g.I + D.I (List.getD (List.getD i.L k.I.toNat []) (0 + 1) default))))] 0 0 (List.length [K.int IntKind.i64])))]))))) (T.leaf (Rd.out (Ex.exit 0) [D.i a.I, D.i b.I, D.i c.I, D.l d.L, D.i e.I, D.i (f.I.toNat : Int), D.l l.L])) := by kernel_rfl
theorem t14_15 (a b c d e f g h : D) : roundT C tab14 14 (loopOf C.P 14 15) l14_15 [a, b, c, d, e, f, g, h] =
  T.ite (decide (g.I ≥ (0 : Int))) (T.need (decide ((0 : Int) ≤ g.I ∧ g.I < (f.I.toNat : Int))) (T.need (decide (g.I.toNat < h.L.length)) (T.need (decide ((0 : Int) ≤ IntKind.wrap IntKind.i64 (g.I + (1 : Int)) ∧ IntKind.wrap IntKind.i64 (g.I + (1 : Int)) < (f.I.toNat : Int))) (T.need (decide (Int.toNat (IntKind.wrap IntKind.i64 (g.I + (1 : Int))) < h.L.length)) (T.need (decide ((0 : Int) ≤ IntKind.wrap IntKind.i64 (g.I + (1 : Int)) ∧ IntKind.wrap IntKind.i64 (g.I + (1 : Int)) < (d.L.length : Int))) (T.need (decide ((0 : Int) ≤ g.I ∧ g.I < (f.I.toNat : Int))) (T.need (decide (g.I.toNat < h.L.length)) (T.leaf (Rd.again [D.i a.I, D.i b.I, D.i c.I, D.l d.L, D.i e.I, D.i (f.I.toNat : Int), D.i (IntKind.wrap IntKind.i64 (g.I - (1 : Int))), D.l (List.set h.L g.I.toNat (updC (List.getD h.L g.I.toNat []) [D.i (maxI (D.I (List.getD (List.getD h.L g.I.toNat []) 0 default)) (IntKind.wrap IntKind.i64 (D.I (List.getD (List.getD h.L (Int.toNat (IntKind.wrap IntKind.i64 (g.I + (1 : Int)))) []) 0 default) - D.I (List.getD (List.getD d.L (Int.toNat (IntKind.wrap IntKind.i64 (g.I + (1 : Int)))) []) (0 + 1 + 1) default))))] 0 0 (List.length [K.int IntKind.i64])))]))))))))) (T.leaf (Rd.out (Ex.exit 2) [D.i a.I, D.i b.I, D.i c.I, D.l d.L, D.i e.I, D.i (f.I.toNat : Int), D.l h.L])) := by kernel_rfl
theorem t14_21 (a b c d e f g h i j k : D) : roundT C tab14 14 (loopOf C.P 14 21) l14_21 [a, b, c, d, e, f, g, h, i, j, k] =
  T.ite (decide (i.I < h.I)) (T.need (decide ((0 : Int) ≤ i.I ∧ i.I < (g.I.toNat : Int))) (T.need (decide (i.I.toNat < k.L.length)) (T.need (decide ((0 : Int) ≤ i.I ∧ i.I < (e.I.toNat : Int))) (T.need (decide (i.I.toNat < j.L.length)) (T.need (decide ((0 : Int) ≤ i.I ∧ i.I < (e.I.toNat : Int))) (T.need (decide (i.I.toNat < List.length (List.set j.L i.I.toNat (updC (List.getD j.L i.I.toNat []) [D.i (IntKind.wrap IntKind.i64 (D.I (List.getD (List.getD k.L i.I.toNat []) 0 default) - f.I))] 0 0 (List.length [K.int IntKind.i64]))))) (T.need (decide ((0 : Int) ≤ i.I ∧ i.I < (d.L.length : Int))) (T.ite (decide (D.I (List.getD (List.getD (List.set j.L i.I.toNat (updC (List.getD j.L i.I.toNat []) [D.i (IntKind.wrap IntKind.i64 (D.I (List.getD (List.getD k.L i.I.toNat []) 0 default) - f.I))] 0 0 (List.length [K.int IntKind.i64]))) i.I.toNat []) 0 default) > D.I (List.getD (List.getD d.L i.I.toNat []) (0 + 1 + 1) default))) (T.leaf (Rd.out Ex.ret [D.i 5])) (T.leaf (Rd.again [D.i a.I, D.i b.I, D.i c.I, D.l d.L, D.i (e.I.toNat : Int), D.i (D.I (List.getD (List.getD k.L i.I.toNat []) 0 default)), D.i (g.I.toNat : Int), D.i h.I, D.i (IntKind.wrap IntKind.i64 (i.I + (1 : Int))), D.l (List.set j.L i.I.toNat (updC (List.getD j.L i.I.toNat []) [D.i (IntKind.wrap IntKind.i64 (D.I (List.getD (List.getD k.L i.I.toNat []) 0 default) - f.I))] 0 0 (List.length [K.int IntKind.i64]))), D.l k.L])))))))))) (T.leaf (Rd.out (Ex.exit 4) [D.i a.I, D.i b.I, D.i c.I, D.l d.L, D.i (e.I.toNat : Int), D.l j.L])) := by kernel_rfl
end Go.Proofs.Ytgoedfonmocafaa
namespace Go.Proofs.Ytgoedfonmocafaa
open Go.Lite
theorem ok95 (n : Nat) : FnOK C (n + 2) 95 (mkF s95 G95) := by
  refine fn_of hC (sp := sp95) (lp := lp95) ⟨ok64 n, trivial⟩ (by kernel_rfl) [] (by kernel_rfl) rfl (fun k hk => by cases hk) fun ds r h => ?_
  unfold G95 at h
  split at h
  · rename_i a b c
    rw [← h]
    refine (congrArg T.run (t95 a b c)).trans ?_
    simp only [run_ite, run_leaf, legP]
    grind
  · cases h
theorem ok127_2 (n : Nat) : LoopSim C (n + 2) 127 (loopOf C.P 127 2) (mkL l127_2 G127_2) := by
  refine loop_of hC (sp := sp127) (lp := lp127) ⟨ok95 n, trivial⟩ [] (by kernel_rfl) rfl (fun k hk => by cases hk) (by kernel_rfl) (fun ds => ((ds.getD 1 default).I - (ds.getD 2 default).I).toNat) fun ds r h => ?_
  unfold G127_2 at h
  split at h
  · rename_i l m i
    obtain ⟨hp, h⟩ := need_some h
    rw [yes_iff] at hp
    obtain ⟨h1, h2, h3, h4⟩ := hp
    have hb : big = 4611686018427387904 := rfl
    refine ⟨by rw [fuelC]; simp; omega, ?_⟩
    rw [show roundT C (mkTab sp127 lp127) 127 (loopOf C.P 127 2) l127_2 [l, m, i] = _ from t127_2 l m i]
    obtain ⟨k, hk⟩ : ∃ k : Nat, i.I = k := ⟨i.I.toNat, by omega⟩
    simp only [run_ite, run_need, run_leaf, hk, h2, Int.toNat_natCast] at h h4 ⊢
    refine first_loop (p := fun j => !legAt l.L j) (i := k) (len := l.L.length) [D.l l.L, D.i l.L.length, D.i (k + 1 : Nat)] h ?_ ?_
    · simp only [wrap_succ (show k < 9223372036854775807 by omega), ix_def, Nat.zero_add, legAt, legOk]
      grind
    · intro hlt hp hh
      refine ⟨Eq.trans (need_yes (p := _) (t := _) ?_) hh, ?_⟩
      · simp only [I_i, L_l]
        exact ⟨h1, trivial, by omega, by omega⟩
      · show ((l.L.length : Int) - ((k + 1 : Nat) : Int)).toNat < (m.I - i.I).toNat
        omega
  · cases h
theorem ok127 (n : Nat) : FnOK C (n + 3) 127 (mkF s127 G127) := by
  refine fn_of hC (sp := sp127) (lp := lp127) ⟨ok95 n, trivial⟩ (by kernel_rfl) [2] (by kernel_rfl) (by kernel_rfl) (fun k hk L hL => by simp at hk; subst hk; cases hL; exact ok127_2 n) fun ds r h => ?_
  unfold G127 at h
  split at h
  · rename_i l
    obtain ⟨hp, h⟩ := need_some h
    rw [yes_iff] at hp
    rw [← h]
    refine (congrArg T.run (t127 l)).trans ?_
    refine (need_yes ⟨hp, by omega, by omega, by omega⟩).trans ?_
    simp only [run_ite, run_leaf, Int.toNat_zero, Nat.sub_zero]
    split
    · rfl
    · rename_i hc
      have : ¬ firstFrom (fun j => !legAt l.L j) 0 l.L.length ≥ 0 := fun hh => hc (decide_eq_true hh)
      rw [firstFrom_neg (by omega)]
  · cases h
theorem ok94 (n : Nat) : FnOK C (n + 4) 94 (mkF s94 G94) := by
  refine fn_of hC (sp := sp94) (lp := lp94) ⟨ok127 n, ok95 (n + 1), trivial⟩ (by kernel_rfl) [] (by kernel_rfl) rfl (fun k hk => by cases hk) fun ds r h => ?_
  unfold G94 at h
  split at h
  · rename_i l
    rw [← h]
    refine (congrArg T.run (t94 l)).trans ?_
    rw [firstFrom_all]
    simp only [Bool.not_not]
  · cases h
theorem ok47 (n : Nat) : FnOK C (n + 5) 47 (mkF s47 G47) := by
  refine fn_of hC (sp := sp47) (lp := lp47) ⟨ok64 (n + 3), ok94 n, trivial⟩ (by kernel_rfl) [] (by kernel_rfl) rfl (fun k hk => by cases hk) fun ds r h => ?_
  unfold G47 at h
  split at h
  · rename_i t r s l
    obtain ⟨hp, h⟩ := need_some h
    rw [yes_iff] at hp
    rw [← h]
    refine (congrArg T.run (t47 t r s l)).trans ?_
    simp only [run_ite, run_need, run_leaf, tankOk, yes_true hp, if_true]
    grind
  · cases h
theorem ok48_3 (n : Nat) : LoopSim C n 48 (loopOf C.P 48 3) (mkL l48_3 G48_3) := by
  refine loop_of hC (sp := sp48) (lp := lp48) trivial [] (by kernel_rfl) rfl (fun k hk => by cases hk) (by kernel_rfl) (fun ds => ((ds.getD 6 default).I - (ds.getD 7 default).I).toNat) fun ds r h => ?_
  unfold G48_3 at h
  split at h
  · rename_i t r0 am lo hi l m i
    obtain ⟨hp, h⟩ := need_some h
    rw [yes_iff] at hp
    obtain ⟨⟨h11, h12, h13, h14, h15⟩, h2, ⟨h31, h32, h33⟩, h4, h5, h6⟩ := hp
    have hb : big = 4611686018427387904 := rfl
    refine ⟨by rw [fuelC]; simp; omega, ?_⟩
    rw [show roundT C (mkTab sp48 lp48) 48 (loopOf C.P 48 3) l48_3 [t, r0, am, lo, hi, l, m, i] = _ from t48_3 t r0 am lo hi l m i]
    obtain ⟨k, hk⟩ : ∃ k : Nat, i.I = k := ⟨i.I.toNat, by omega⟩
    simp only [run_ite, run_need, run_leaf, hk, h4, Int.toNat_natCast] at h h6 ⊢
    by_cases hlt : k < l.L.length
    · have hl := allFrom_iff.1 h15 k (Nat.zero_le _) (by omega)
      have ha := allFrom_iff.1 h2 k (Nat.zero_le _) (by omega)
      simp only [amOk, Lite.within_iff] at ha
      simp only [legAt, legOk, legP, Bool.and_eq_true, Lite.within_iff, decide_eq_true_eq] at hl
      obtain ⟨m', hm⟩ : ∃ m', l.L.length - k = m' + 1 := ⟨l.L.length - k - 1, by omega⟩
      have hm' : l.L.length - (k + 1) = m' := by omega
      have d1 : decide ((0 : Int) ≤ (k : Int) ∧ (k : Int) < (l.L.length : Int)) = true := decide_eq_true ⟨by omega, by omega⟩
      have d2 : decide ((0 : Int) ≤ (k : Int) ∧ (k : Int) < (am.L.length : Int)) = true := decide_eq_true ⟨by omega, by omega⟩
      have d0 : decide ((k : Int) < (l.L.length : Int)) = true := decide_eq_true (by omega)
      simp only [hm, safeFrom] at h
      simp only [d0, d1, d2, if_true, ix_def, Nat.zero_add, wrap_succ (show k < 9223372036854775807 by omega)]
      simp only [wrap_id (x := hi.I + ix (am.L.getD k []) 0) (by omega) (by omega), wrap_id (x := lo.I + ix (am.L.getD k []) 0) (by omega) (by omega), wrap_id (x := lo.I + ix (am.L.getD k []) 0 - ix (l.L.getD k []) 1) (by omega) (by omega), wrap_id (x := hi.I + ix (am.L.getD k []) 0 - ix (l.L.getD k []) 0) (by omega) (by omega)]
      by_cases c1 : hi.I + ix (am.L.getD k []) 0 > t.I
      · simp only [c1, if_true, Bool.false_eq_true, if_false, Option.some.injEq] at h
        simp only [c1, decide_true, if_true]
        subst h
        exact out_ok rfl
      · by_cases c2 : lo.I + ix (am.L.getD k []) 0 - ix (l.L.getD k []) 1 < r0.I
        · simp only [c1, c2, if_true, Bool.false_eq_true, if_false, Option.some.injEq] at h
          simp only [c1, c2, decide_true, decide_false, if_true, Bool.false_eq_true, if_false]
          subst h
          exact out_ok rfl
        · simp only [c1, c2, decide_false, Bool.false_eq_true, if_false] at h ⊢
          refine again_ok rfl ?_ ?_
          · refine (need_yes ⟨⟨h11, h12, h13, h14, h15⟩, h2, ⟨by simp only [I_i]; omega, by simp only [I_i]; omega, by simp only [I_i]; omega⟩, by simp only [I_i, L_l], by simp only [I_i]; omega, by simp only [I_i]; omega⟩).trans ?_
            simp only [I_i, L_l, Int.toNat_natCast, hm', run_ite, run_leaf]
            exact h
          · show ((l.L.length : Int) - ((k + 1 : Nat) : Int)).toNat < (m.I - i.I).toNat
            omega
    · rw [show l.L.length - k = 0 by omega] at h
      simp only [safeFrom, if_true, Option.some.injEq] at h
      subst h
      rw [if_neg (by simpa using hlt)]
      exact out_ok rfl
  · cases h
theorem ok48 (n : Nat) : FnOK C (n + 1) 48 (mkF s48 G48) := by
  refine fn_of hC (sp := sp48) (lp := lp48) trivial (by kernel_rfl) [3] (by kernel_rfl) (by kernel_rfl) (fun k hk L hL => by simp at hk; subst hk; cases hL; exact ok48_3 n) fun ds r h => ?_
  unfold G48 at h
  split at h
  · rename_i t r0 s l am
    obtain ⟨hp, h⟩ := need_some h
    rw [yes_iff] at hp
    rw [← h]
    refine (congrArg T.run (t48 t r0 s l am)).trans ?_
    refine (need_yes ⟨hp.1, hp.2.1, hp.2.2, rfl, by omega, by omega⟩).trans ?_
    simp only [run_ite, run_leaf, Int.toNat_zero, Nat.sub_zero]
    split <;> rename_i hc <;> simp [hc]
  · cases h
theorem ok13_4 (n : Nat) : LoopSim C (n + 1) 13 (loopOf C.P 13 4) (mkL l13_4 G13_4) := by
  refine loop_of hC (sp := sp13) (lp := lp13) ⟨ok46 n, trivial⟩ [] (by kernel_rfl) rfl (fun k hk => by cases hk) (by kernel_rfl) (fun ds => (((ds.getD 0 default).L.length : Int) - (ds.getD 1 default).I).toNat) fun ds r h => ?_
  unfold G13_4 at h
  split at h
  · rename_i l i
    obtain ⟨hp, h⟩ := need_some h
    rw [yes_iff] at hp
    obtain ⟨h1, h2, h3⟩ := hp
    have hb : big = 4611686018427387904 := rfl
    refine ⟨by rw [fuelC]; simp; omega, ?_⟩
    rw [show roundT C (mkTab sp13 lp13) 13 (loopOf C.P 13 4) l13_4 [l, i] = _ from t13_4 l i]
    obtain ⟨k, hk⟩ : ∃ k : Nat, i.I = k := ⟨i.I.toNat, by omega⟩
    simp only [run_ite, run_need, run_leaf, hk, Int.toNat_natCast] at h h3 ⊢
    refine all_loop (p := legAt l.L) (i := k) (len := l.L.length) [D.l l.L, D.i (k + 1 : Nat)] h ?_ ?_
    · simp only [wrap_succ (show k < 9223372036854775807 by omega), ix_def, Nat.zero_add, legAt, legOk, legP, within]
      grind
    · intro hlt hp hh
      refine ⟨Eq.trans (need_yes (p := _) (t := _) ?_) hh, ?_⟩
      · simp only [I_i, L_l]
        exact ⟨h1, by omega, by omega⟩
      · show ((l.L.length : Int) - ((k + 1 : Nat) : Int)).toNat < ((l.L.length : Int) - i.I).toNat
        omega
  · cases h
theorem ok13 (n : Nat) : FnOK C (n + 2) 13 (mkF s13 G13) := by
  refine fn_of hC (sp := sp13) (lp := lp13) ⟨ok46 n, trivial⟩ (by kernel_rfl) [4] (by kernel_rfl) (by kernel_rfl) (fun k hk L hL => by simp at hk; subst hk; cases hL; exact ok13_4 n) fun ds r h => ?_
  unfold G13 at h
  split at h
  · rename_i t r0 s l
    rw [← h]
    refine (congrArg T.run (t13 t r0 s l)).trans ?_
    have hb : big = 4611686018427387904 := rfl
    simp only [run_ite, run_need, run_leaf, tankOk, yes_iff, Int.toNat_zero, Nat.sub_zero]
    grind
  · cases h
end Go.Proofs.Ytgoedfonmocafaa
namespace Go.Proofs.Ytgoedfonmocafaa
open Go.Lite
theorem len_tabI (n : Nat) (f : Nat → Int) : (tabI n f).length = n := by simp [tabI, mkI]
theorem tabI_congr {n : Nat} {f g : Nat → Int} (h : ∀ j, j < n → f j = g j) : tabI n f = tabI n g := by
  unfold tabI
  congr 1
  exact List.map_congr_left fun j hj => h j (List.mem_range.1 hj)
theorem tabI_get {n : Nat} {f : Nat → Int} {j : Nat} (h : j < n) : (tabI n f).getD j [] = [.i (f j)] := by
  simp [tabI, mkI, List.getD_eq_getElem?_getD, h]
theorem tabI_set {n : Nat} {f : Nat → Int} {i : Nat} {v : Int} : (tabI n f).set i [.i v] = tabI n fun j => if j = i then v else f j := by
  apply List.ext_getElem?
  intro j
  simp only [tabI, mkI, List.map_map, List.getElem?_set, List.getElem?_map, List.length_map, List.length_range]
  by_cases hij : i = j
  · subst hij
    by_cases hi : i < n
    · simp [hi]
    · simp [hi]
  · by_cases hj : j < n
    · simp [hj, hij, show ¬ j = i from fun h => hij h.symm]
    · simp [hj, hij]
theorem tabI_zero (n : Nat) : List.replicate n [D.i 0] = tabI n fun _ => 0 := by
  simp [tabI, mkI, List.map_const']
theorem tank_of {t r s : Int} {l : List (List D)} (h : tankP t r s l) : (1 ≤ t ∧ t ≤ 1000000) ∧ (0 ≤ r ∧ r ≤ t) ∧ (0 ≤ s ∧ s ≤ t) ∧ l.length ≤ 50 ∧ ∀ j, j < l.length → (0 ≤ leastOf l j ∧ leastOf l j ≤ mostOf l j) ∧ mostOf l j ≤ 1000000 ∧ (0 ≤ fillOf l j ∧ fillOf l j ≤ 1000000) := by
  simp only [tankP, tankOk, Bool.and_eq_true, Lite.within_iff, decide_eq_true_eq, allFrom_iff, legAt, legOk, legP] at h
  obtain ⟨⟨⟨⟨h1, h2⟩, h3⟩, h4⟩, h5⟩ := h
  refine ⟨h1, h2, h3, h4, fun j hj => ?_⟩
  have := h5 j (Nat.zero_le _) (by omega)
  exact ⟨this.1.1, this.1.2, this.2⟩
section
variable {t r s : Int} {l : List (List D)} (h : tankP t r s l)
include h
theorem need_rng : ∀ j, j ≤ l.length → -1000000 ≤ needAt l r s j ∧ needAt l r s j ≤ 1000000 * (j + 1)
  | 0, _ => by
    obtain ⟨h1, h2, h3, h4, h5⟩ := tank_of h
    simp only [needAt]; omega
  | j + 1, hj => by
    obtain ⟨h1, h2, h3, h4, h5⟩ := tank_of h
    have := need_rng j (by omega)
    have := h5 j (by omega)
    simp only [needAt]; omega
theorem up_rng : ∀ j, j ≤ l.length → 0 ≤ upAt l r s j ∧ upAt l r s j ≤ 1000000 * (j + 1)
  | 0, _ => by simp only [upAt]; omega
  | j + 1, hj => by
    have h1 := up_rng j (by omega)
    have h2 := need_rng h (j + 1) hj
    simp only [upAt]; omega
omit h in
theorem up_mono {j : Nat} : upAt l r s j ≤ upAt l r s (j + 1) := by simp only [upAt]; omega
theorem down_rng : ∀ k j, j + k < l.length → upAt l r s (j + 1) ≤ downAt l r s k j ∧ downAt l r s k j ≤ 1000000 * 51
  | 0, j, hj => by
    have h1 := up_rng h (j + 1) (by omega)
    have h2 := (tank_of h).2.2.2.1
    simp only [downAt]; omega
  | k + 1, j, hj => by
    have h1 := up_rng h (j + 1) (by omega)
    have h2 := (tank_of h).2.2.2.1
    have h3 := down_rng k (j + 1) (by omega)
    have h4 := ((tank_of h).2.2.2.2 (j + 1) (by omega)).2.2
    simp only [downAt]; omega
theorem sum_rng {j : Nat} (hj : j < l.length) : upAt l r s (j + 1) ≤ sumAt l r s j ∧ 0 ≤ sumAt l r s j ∧ sumAt l r s j ≤ 51000000 := by
  have h1 := down_rng h (l.length - 1 - j) j (by omega)
  have h2 := up_rng h (j + 1) (by omega)
  unfold sumAt
  omega
omit h in
theorem sum_step {j : Nat} (hj : j + 1 < l.length) : sumAt l r s j = max (upAt l r s (j + 1)) (sumAt l r s (j + 1) - fillOf l (j + 1)) := by
  unfold sumAt
  rw [show l.length - 1 - j = (l.length - 1 - (j + 1)) + 1 by omega]
  rfl
theorem sum_mono {j : Nat} (hj : j + 1 < l.length) : sumAt l r s j ≤ sumAt l r s (j + 1) ∧ sumAt l r s (j + 1) - sumAt l r s j ≤ fillOf l (j + 1) := by
  have h1 := sum_step (r := r) (s := s) hj
  have h2 := (sum_rng h hj).1
  have h3 := up_mono (l := l) (r := r) (s := s) (j := j + 1)
  have h4 := ((tank_of h).2.2.2.2 (j + 1) hj).2.2
  omega
end
set_option maxRecDepth 100000 in
theorem max_if (a b : Int) : maxI a b = max a b := by
  unfold maxI
  rw [Int.max_def]
  by_cases h : b > a
  · rw [if_pos h, if_pos (by omega)]
  · rw [if_neg h]
    by_cases h2 : a ≤ b
    · rw [if_pos h2]; omega
    · rw [if_neg h2]
theorem ok14_8 (n : Nat) : LoopSim C (n + 5) 14 (loopOf C.P 14 8) (mkL l14_8 G14_8) := by
  refine loop_of hC (sp := sp14) (lp := lp14) ⟨ok47 n, ok48 (n + 4), trivial⟩ [] (by kernel_rfl) rfl (fun k hk => by cases hk) (by kernel_rfl) (fun ds => ((ds.getD 9 default).I - (ds.getD 10 default).I).toNat) fun ds rr h => ?_
  unfold G14_8 at h
  split at h
  · rename_i t r s l m m' need most l' n' i row
    obtain ⟨hp, h⟩ := need_some h
    rw [yes_iff] at hp
    obtain ⟨h1, h2, h3, h4, h5, h6, h7, h8, h9, h10⟩ := hp
    have hlen := (tank_of h1).2.2.2.1
    refine ⟨by rw [fuelC]; simp; omega, ?_⟩
    rw [show roundT C (mkTab sp14 lp14) 14 (loopOf C.P 14 8) l14_8 [t, r, s, l, m, m', need, most, l', n', i, row] = _ from t14_8 t r s l m m' need most l' n' i row]
    obtain ⟨k, hk⟩ : ∃ k : Nat, i.I = k := ⟨i.I.toNat, by omega⟩
    simp only [hk, h2, h3, h4, h5, h8, h9, h10, Int.toNat_natCast, upd1, ix_def, Nat.zero_add] at h ⊢
    refine rd_if (fun hlt => ?_) fun hlt => ?_
    · have hkl : k < l.L.length := by omega
      have hn := need_rng h1 k (by omega)
      have hn' := need_rng h1 (k + 1) (by omega)
      have e1 : needAt l.L r.I s.I (k + 1) = needAt l.L r.I s.I k + ix (l.L.getD k []) 1 := rfl
      refine rd_dec ⟨by omega, by omega⟩ (rd_dec ⟨by omega, by omega⟩ (rd_dec (by simp only [upTo, len_tabI]; omega) (rd_again ?_ ?_)))
      · have w1 : IntKind.i64.wrap (needAt l.L r.I s.I k + ix (l.L.getD k []) 1) = needAt l.L r.I s.I (k + 1) := by rw [e1]; exact wrap_id (by omega) (by omega)
        rw [w1, max_if, wrap_succ (by omega)]
        refine (need_yes ⟨h1, rfl, rfl, rfl, rfl, by simp only [I_i]; omega, by simp only [I_i, L_l]; omega, rfl, rfl, ?_⟩).trans h
        simp only [L_l, I_i, Int.toNat_natCast, upTo, tabI_set]
        refine tabI_congr fun j hj => ?_
        by_cases hjk : j = k
        · subst hjk; simp [upAt]
        · rw [if_neg hjk]
          by_cases hlt2 : j < k
          · rw [if_pos hlt2]; exact (if_pos (show j < k + 1 by omega)).symm
          · rw [if_neg hlt2]; exact (if_neg (show ¬ j < k + 1 by omega)).symm
      · show ((l.L.length : Int) - ((IntKind.i64.wrap ((k : Int) + 1)))).toNat < (n'.I - i.I).toNat
        rw [wrap_succ (by omega)]
        omega
    · have hkl : k = l.L.length := by omega
      subst hkl
      exact rd_out h
  · cases h
theorem ok14_15 (n : Nat) : LoopSim C (n + 5) 14 (loopOf C.P 14 15) (mkL l14_15 G14_15) := by
  refine loop_of hC (sp := sp14) (lp := lp14) ⟨ok47 n, ok48 (n + 4), trivial⟩ [] (by kernel_rfl) rfl (fun k hk => by cases hk) (by kernel_rfl) (fun ds => ((ds.getD 6 default).I + 3).toNat) fun ds rr h => ?_
  unfold G14_15 at h
  split at h
  · rename_i t r s l m m' i row
    obtain ⟨hp, h⟩ := need_some h
    rw [yes_iff] at hp
    obtain ⟨h1, h2, h3, h4, h5, h6⟩ := hp
    have hlen := (tank_of h1).2.2.2.1
    refine ⟨by rw [fuelC]; simp; omega, ?_⟩
    rw [show roundT C (mkTab sp14 lp14) 14 (loopOf C.P 14 15) l14_15 [t, r, s, l, m, m', i, row] = _ from t14_15 t r s l m m' i row]
    simp only [h2, h3, h6, Int.toNat_natCast, upd1, ix_def, Nat.zero_add, Nat.reduceAdd] at h ⊢
    have e0 : (downTo l.L r.I s.I i.I).length = l.L.length := len_tabI _ _
    refine rd_if (fun hge => ?_) fun hge => ?_
    · obtain ⟨k, hk⟩ : ∃ k : Nat, i.I = k := ⟨i.I.toNat, by omega⟩
      have hkl : k + 1 < l.L.length := by omega
      have w1 : IntKind.i64.wrap ((k : Int) + 1) = ((k + 1 : Nat) : Int) := wrap_succ (by omega)
      have w2 : IntKind.i64.wrap ((k : Int) - 1) = (k : Int) - 1 := wrap_id (by omega) (by omega)
      rw [hk] at e0 ⊢
      rw [w1, w2]
      simp only [Int.toNat_natCast]
      have g1 : ix ((downTo l.L r.I s.I k).getD (k + 1) []) 0 = sumAt l.L r.I s.I (k + 1) := by
        unfold downTo
        rw [tabI_get hkl]
        show (if (k : Int) < ((k + 1 : Nat) : Int) then _ else _) = _
        rw [if_pos (by omega)]
      have g2 : ix ((downTo l.L r.I s.I k).getD k []) 0 = upAt l.L r.I s.I (k + 1) := by
        unfold downTo
        rw [tabI_get (by omega)]
        show (if (k : Int) < (k : Int) then _ else _) = _
        rw [if_neg (by omega)]
      have hs1 := sum_rng h1 hkl
      have hf := ((tank_of h1).2.2.2.2 (k + 1) hkl).2.2
      have e1 := sum_step (r := r.I) (s := s.I) hkl
      have e2 : fillOf l.L (k + 1) = ix (l.L.getD (k + 1) []) 2 := rfl
      have w3 : IntKind.i64.wrap (sumAt l.L r.I s.I (k + 1) - ix (l.L.getD (k + 1) []) 2) = sumAt l.L r.I s.I (k + 1) - fillOf l.L (k + 1) := wrap_id (by show _ ≤ _ - fillOf l.L (k + 1); omega) (by show _ - fillOf l.L (k + 1) < _; omega)
      simp only [g1, g2, w3, max_if, ← e1]
      refine rd_dec ⟨by omega, by omega⟩ (rd_dec (by omega) (rd_dec ⟨by omega, by omega⟩ (rd_dec (by omega) (rd_dec ⟨by omega, by omega⟩ (rd_dec ⟨by omega, by omega⟩ (rd_dec (by omega) (rd_again ?_ ?_)))))))
      · refine (need_yes ⟨h1, rfl, rfl, by simp only [I_i]; omega, by simp only [I_i, L_l]; omega, ?_⟩).trans h
        simp only [L_l, I_i, downTo, tabI_set]
        refine tabI_congr fun j hj => ?_
        by_cases hjk : j = k
        · subst hjk
          rw [if_pos rfl]; exact (if_pos (show (j : Int) - 1 < (j : Int) by omega)).symm
        · rw [if_neg hjk]
          by_cases hlt2 : (k : Int) < (j : Int)
          · rw [if_pos hlt2]; exact (if_pos (show (k : Int) - 1 < (j : Int) by omega)).symm
          · rw [if_neg hlt2]; exact (if_neg (show ¬ (k : Int) - 1 < (j : Int) by omega)).symm
      · show (((k : Int) - 1) + 3).toNat < (i.I + 3).toNat
        omega
    · refine rd_out ?_
      rw [← h]
      simp only [run_leaf]
      congr 5
      unfold downTo sums
      simp only [List.cons.injEq, D.l.injEq, and_true, true_and]
      refine tabI_congr fun j hj => ?_
      rw [if_pos (by omega)]
  · cases h
theorem out_of {l : List (List D)} {r s : Int} {k : Nat} (hk : k < l.length) : sumAt l r s k - beforeAt l r s k = outAt l r s k := by
  cases k with
  | zero => simp [beforeAt, outAt]
  | succ k => simp [beforeAt, outAt]
theorem before_rng {t r s : Int} {l : List (List D)} (h : tankP t r s l) {k : Nat} (hk : k ≤ l.length) : 0 ≤ beforeAt l r s k ∧ beforeAt l r s k ≤ 51000000 := by
  cases k with
  | zero => simp [beforeAt]
  | succ k =>
    have := sum_rng h (j := k) (by omega)
    simp only [beforeAt]; omega
theorem ok14_21 (n : Nat) : LoopSim C (n + 5) 14 (loopOf C.P 14 21) (mkL l14_21 G14_21) := by
  refine loop_of hC (sp := sp14) (lp := lp14) ⟨ok47 n, ok48 (n + 4), trivial⟩ [] (by kernel_rfl) rfl (fun k hk => by cases hk) (by kernel_rfl) (fun ds => ((ds.getD 7 default).I - (ds.getD 8 default).I).toNat) fun ds rr h => ?_
  unfold G14_21 at h
  split at h
  · rename_i t r s l m b m' n' i row row'
    obtain ⟨hp, h⟩ := need_some h
    rw [yes_iff] at hp
    obtain ⟨h1, h2, h3, h4, h5, h6, h7, h8, h9⟩ := hp
    have hlen := (tank_of h1).2.2.2.1
    refine ⟨by rw [fuelC]; simp; omega, ?_⟩
    rw [show roundT C (mkTab sp14 lp14) 14 (loopOf C.P 14 21) l14_21 [t, r, s, l, m, b, m', n', i, row, row'] = _ from t14_21 t r s l m b m' n' i row row']
    obtain ⟨k, hk⟩ : ∃ k : Nat, i.I = k := ⟨i.I.toNat, by omega⟩
    simp only [hk, h2, h3, h4, h7, h8, h9, Int.toNat_natCast, upd1, ix_def, Nat.zero_add, Nat.reduceAdd] at h ⊢
    have e0 : (outTo l.L r.I s.I k).length = l.L.length := len_tabI _ _
    have e3 : (sums l.L r.I s.I).length = l.L.length := len_tabI _ _
    refine rd_if (fun hlt => ?_) fun hlt => ?_
    · have hkl : k < l.L.length := by omega
      have g1 : ix ((sums l.L r.I s.I).getD k []) 0 = sumAt l.L r.I s.I k := by
        unfold sums
        rw [tabI_get hkl]; rfl
      have hs1 := sum_rng h1 hkl
      have hb := before_rng h1 (k := k) (by omega)
      have w1 : IntKind.i64.wrap (sumAt l.L r.I s.I k - beforeAt l.L r.I s.I k) = outAt l.L r.I s.I k := by rw [← out_of hkl]; exact wrap_id (by omega) (by omega)
      simp only [g1, w1]
      have e4 : (outTo l.L r.I s.I k).set k [.i (outAt l.L r.I s.I k)] = outTo l.L r.I s.I (k + 1) := by
        unfold outTo
        rw [tabI_set]
        refine tabI_congr fun j hj => ?_
        by_cases hjk : j = k
        · subst hjk; simp
        · rw [if_neg hjk]
          by_cases hlt2 : j < k
          · rw [if_pos hlt2, if_pos (show j < k + 1 by omega)]
          · rw [if_neg hlt2, if_neg (show ¬ j < k + 1 by omega)]
      have e5 : (outTo l.L r.I s.I (k + 1)).length = l.L.length := len_tabI _ _
      have g2 : ix ((outTo l.L r.I s.I (k + 1)).getD k []) 0 = outAt l.L r.I s.I k := by
        unfold outTo
        rw [tabI_get hkl]
        show (if k < k + 1 then _ else _) = _
        rw [if_pos (by omega)]
      rw [e4, g2]
      have e6 : l.L.length - k = (l.L.length - (k + 1)) + 1 := by omega
      rw [e6] at h
      simp only [allFrom] at h
      refine rd_dec ⟨by omega, by omega⟩ (rd_dec (by omega) (rd_dec ⟨by omega, by omega⟩ (rd_dec (by omega) (rd_dec ⟨by omega, by omega⟩ (rd_dec (by omega) (rd_dec ⟨by omega, by omega⟩ (rd_if (fun hc => ?_) fun hc => ?_)))))))
      · have : outOk l.L r.I s.I k = false := by
          unfold outOk
          exact decide_eq_false (by show ¬ _ ≤ ix (l.L.getD k []) 2; omega)
        rw [this, Bool.false_and] at h
        exact rd_out h
      · have : outOk l.L r.I s.I k = true := by
          unfold outOk
          exact decide_eq_true (by show _ ≤ ix (l.L.getD k []) 2; omega)
        rw [this, Bool.true_and] at h
        refine rd_again ?_ ?_
        · rw [wrap_succ (by omega)]
          exact (need_yes ⟨h1, rfl, rfl, rfl, by simp only [I_i]; omega, by simp only [I_i, L_l]; omega, rfl, rfl, rfl⟩).trans h
        · show ((l.L.length : Int) - ((IntKind.i64.wrap ((k : Int) + 1)))).toNat < (n'.I - i.I).toNat
          rw [wrap_succ (by omega)]
          omega
    · have hkl : k = l.L.length := by omega
      refine rd_out ?_
      rw [← h]
      subst hkl
      simp only [Nat.sub_self, allFrom, run_ite, run_leaf, if_true]
      congr 5
      simp only [List.cons.injEq, D.l.injEq, and_true, true_and]
      unfold outTo outs
      refine tabI_congr fun j hj => ?_
      rw [if_pos hj]
  · cases h
end Go.Proofs.Ytgoedfonmocafaa
namespace Go.Proofs.Ytgoedfonmocafaa
open Go.Lite
theorem take_tabI {n : Nat} {f : Nat → Int} : (tabI n f).take n = tabI n f := List.take_of_length_le (by rw [len_tabI]; omega)
theorem out_nonneg {t r s : Int} {l : List (List D)} (h : tankP t r s l) {j : Nat} (hj : j < l.length) : 0 ≤ outAt l r s j := by
  cases j with
  | zero => exact (sum_rng h hj).2.1
  | succ j =>
    have := sum_mono h hj
    simp only [outAt]; omega
theorem upTo_zero {l : List (List D)} {r s : Int} : upTo l r s 0 = tabI l.length fun _ => 0 := tabI_congr fun j _ => by rw [if_neg (Nat.not_lt_zero j)]
theorem outTo_zero {l : List (List D)} {r s : Int} : outTo l r s 0 = tabI l.length fun _ => 0 := tabI_congr fun j _ => by rw [if_neg (Nat.not_lt_zero j)]
set_option maxRecDepth 100000 in
theorem ok14 (n : Nat) : FnOK C (n + 6) 14 (mkF s14 G14) := by
  refine fn_of hC (sp := sp14) (lp := lp14) ⟨ok47 n, ok48 (n + 4), trivial⟩ (by kernel_rfl) [8, 15, 21] (by kernel_rfl) (by kernel_rfl) (fun k hk L hL => by
    simp only [List.mem_cons, List.not_mem_nil, or_false] at hk
    rcases hk with rfl | rfl | rfl <;> cases hL
    · exact ok14_8 n
    · exact ok14_15 n
    · exact ok14_21 n) fun ds rr h => ?_
  unfold G14 at h
  split at h
  · rename_i t r s l
    obtain ⟨hp, h⟩ := need_some h
    rw [yes_iff] at hp
    refine (congrArg T.run (t14 t r s l)).trans ?_
    simp only [Int.toNat_natCast, Int.toNat_zero, tabI_zero, len_tabI, Nat.sub_zero]
    refine go_yes hp (go_not (fun hc => ?_) (fun hc => ?_))
    · rw [run_ite, hc] at h
      exact h
    · rw [run_ite, hc] at h
      have h : (T.ite (fuelOk t.I r.I s.I l.L) (T.leaf [D.i 1, D.i ↑l.L.length, D.i 0, D.l (outs l.L r.I s.I)]) (T.leaf [D.i 0, D.i 5])).run = some rr := h
      have ht : tankP t.I r.I s.I l.L := hc
      obtain ⟨h1, h2, h3, h4, h5⟩ := tank_of ht
      have w0 : IntKind.i64.wrap (r.I - s.I) = r.I - s.I := wrap_id (by omega) (by omega)
      have w1 : IntKind.i64.wrap ((l.L.length : Int) - 2) = (l.L.length : Int) - 2 := wrap_id (by omega) (by omega)
      rw [w0, w1]
      have e1 : upTo l.L r.I s.I l.L.length = downTo l.L r.I s.I ((l.L.length : Int) - 2) := by
        unfold upTo downTo
        refine tabI_congr fun j hj => ?_
        rw [if_pos hj]
        by_cases hj2 : (l.L.length : Int) - 2 < (j : Int)
        · rw [if_pos hj2]
          unfold sumAt
          rw [show l.L.length - 1 - j = 0 by omega]
          rfl
        · rw [if_neg hj2]
      have e2 : (outs l.L r.I s.I).length = l.L.length := len_tabI _ _
      have e3 : (outs l.L r.I s.I).take l.L.length = outs l.L r.I s.I := take_tabI
      rw [e3]
      refine go_dec ⟨by omega, by trivial, by omega, by rw [bytes3]; omega⟩ (go_yes ⟨ht, by trivial, by trivial, by trivial, by trivial, by omega, by omega, by trivial, by trivial, upTo_zero.symm⟩ (go_yes ⟨ht, by trivial, by trivial, by omega, by omega, e1⟩ (go_dec ⟨by omega, by trivial, by omega, by rw [bytes3]; omega⟩ (go_yes ⟨ht, by trivial, by trivial, by trivial, by omega, by omega, by trivial, outTo_zero.symm, by trivial⟩ ?_))))
      refine go_ite (fun ha => ?_) (fun ha => ?_)
      · have hpre : tankPre t.I r.I l.L (outs l.L r.I s.I) := by
          simp only [tankP, tankOk, Bool.and_eq_true, decide_eq_true_eq] at ht
          exact ⟨by omega, by omega, e2, h4, ht.2⟩
        have ham : allFrom (amOk l.L (outs l.L r.I s.I)) 0 l.L.length = true := by
          rw [allFrom_iff] at ha ⊢
          intro j hj hj2
          have hjl : j < l.L.length := by omega
          have := ha j hj hj2
          simp only [outOk, decide_eq_true_eq] at this
          have g := tabI_get (f := outAt l.L r.I s.I) hjl
          unfold amOk outs
          rw [g, Lite.within_iff]
          exact ⟨out_nonneg hc hjl, this⟩
        refine go_dec (by omega) (go_yes ⟨hpre, ham, by unfold bounds; omega⟩ ?_)
        have hf : fuelOk t.I r.I s.I l.L = safeFrom t.I r.I l.L (outs l.L r.I s.I) 0 l.L.length s.I s.I := by
          unfold fuelOk; rw [ha, Bool.true_and]
        rw [hf] at h
        refine go_not (fun hs => ?_) (fun hs => ?_)
        · rw [run_ite, hs] at h
          exact h
        · rw [run_ite, hs] at h
          exact h
      · have hf : fuelOk t.I r.I s.I l.L = false := by unfold fuelOk; rw [ha, Bool.false_and]
        rw [run_ite, hf] at h
        exact h
  · cases h
end Go.Proofs.Ytgoedfonmocafaa
namespace Go.Proofs.Ytgoedfonmocafaa
open Go.Lite
def s10 : Sig := ⟨[], [(.k .bool, [])]⟩
def s3 : Sig := ⟨[.agg [.k (.ro [.int .i64, .int .i64, .int .i64, .int .i64, .int .i64]), .k (.ro [.int .i64, .int .i64]), .k (.ro [.int .i64, .int .i64, .int .i64])], .agg [.k (.int .i64), .k (.int .i64), .k (.ro [.int .i64, .int .i64, .int .i64]), .k (.ro [.int .i64])], .k (.ro [.int .i64]), .k (.ro [.int .i64]), .k (.ro [.int .i64]), .k (.int .i64), .k (.int .i64)], [(.k .bool, [])]⟩
def l3_5 : LSig := mkLS [2, 3, 4, 5, 6, 7, 8, 15, 16] [(220, [(2, .k (.ro [.int .i64])), (3, .k (.ro [.int .i64])), (4, .k (.ro [.int .i64])), (5, .k (.int .i64)), (6, .k (.int .i64)), (7, .ptr 0 3 0 0), (8, .ptr 1 4 0 0), (15, .sl 2 1), (16, .k (.int .i64))], [.box [.k (.ro [.int .i64, .int .i64, .int .i64, .int .i64, .int .i64]), .k (.ro [.int .i64, .int .i64]), .k (.ro [.int .i64, .int .i64, .int .i64])], .box [.k (.int .i64), .k (.int .i64), .k (.ro [.int .i64, .int .i64, .int .i64]), .k (.ro [.int .i64])], .row [.int .i64]])] [(.exit 0, [3, 4, 5, 6, 7, 8, 15], [(220, [(3, .k (.ro [.int .i64])), (4, .k (.ro [.int .i64])), (5, .k (.int .i64)), (6, .k (.int .i64)), (7, .ptr 0 3 0 0), (8, .ptr 1 4 0 0), (15, .sl 2 1)], [.box [.k (.ro [.int .i64, .int .i64, .int .i64, .int .i64, .int .i64]), .k (.ro [.int .i64, .int .i64]), .k (.ro [.int .i64, .int .i64, .int .i64])], .box [.k (.int .i64), .k (.int .i64), .k (.ro [.int .i64, .int .i64, .int .i64]), .k (.ro [.int .i64])], .row [.int .i64]])]), (.ret, [14], [(220, [(14, .k .bool)], [])])]
def l3_13 : LSig := mkLS [3, 4, 5, 6, 7, 8, 15, 17, 18] [(220, [(3, .k (.ro [.int .i64])), (4, .k (.ro [.int .i64])), (5, .k (.int .i64)), (6, .k (.int .i64)), (7, .ptr 0 3 0 0), (8, .ptr 1 4 0 0), (15, .sl 2 1), (17, .nils), (18, .k (.int .i64))], [.box [.k (.ro [.int .i64, .int .i64, .int .i64, .int .i64, .int .i64]), .k (.ro [.int .i64, .int .i64]), .k (.ro [.int .i64, .int .i64, .int .i64])], .box [.k (.int .i64), .k (.int .i64), .k (.ro [.int .i64, .int .i64, .int .i64]), .k (.ro [.int .i64])], .row [.int .i64]]), (220, [(3, .k (.ro [.int .i64])), (4, .k (.ro [.int .i64])), (5, .k (.int .i64)), (6, .k (.int .i64)), (7, .ptr 0 3 0 0), (8, .ptr 1 4 0 0), (15, .sl 2 1), (17, .sl 3 3), (18, .k (.int .i64))], [.box [.k (.ro [.int .i64, .int .i64, .int .i64, .int .i64, .int .i64]), .k (.ro [.int .i64, .int .i64]), .k (.ro [.int .i64, .int .i64, .int .i64])], .box [.k (.int .i64), .k (.int .i64), .k (.ro [.int .i64, .int .i64, .int .i64]), .k (.ro [.int .i64])], .row [.int .i64], .row [.int .i64, .int .i64, .int .i64]])] [(.ret, [14], [(220, [(14, .k .bool)], [])]), (.exit 2, [3, 5, 6, 7, 8, 15, 17], [(220, [(3, .k (.ro [.int .i64])), (5, .k (.int .i64)), (6, .k (.int .i64)), (7, .ptr 0 3 0 0), (8, .ptr 1 4 0 0), (15, .sl 2 1), (17, .nils)], [.box [.k (.ro [.int .i64, .int .i64, .int .i64, .int .i64, .int .i64]), .k (.ro [.int .i64, .int .i64]), .k (.ro [.int .i64, .int .i64, .int .i64])], .box [.k (.int .i64), .k (.int .i64), .k (.ro [.int .i64, .int .i64, .int .i64]), .k (.ro [.int .i64])], .row [.int .i64]]), (220, [(3, .k (.ro [.int .i64])), (5, .k (.int .i64)), (6, .k (.int .i64)), (7, .ptr 0 3 0 0), (8, .ptr 1 4 0 0), (15, .sl 2 1), (17, .sl 3 3)], [.box [.k (.ro [.int .i64, .int .i64, .int .i64, .int .i64, .int .i64]), .k (.ro [.int .i64, .int .i64]), .k (.ro [.int .i64, .int .i64, .int .i64])], .box [.k (.int .i64), .k (.int .i64), .k (.ro [.int .i64, .int .i64, .int .i64]), .k (.ro [.int .i64])], .row [.int .i64], .row [.int .i64, .int .i64, .int .i64]])])]
def l3_31 : LSig := mkLS [3, 5, 6, 7, 8, 15, 17, 23, 25, 26] [(220, [(3, .k (.ro [.int .i64])), (5, .k (.int .i64)), (6, .k (.int .i64)), (7, .ptr 0 3 0 0), (8, .ptr 1 4 0 0), (15, .sl 2 1), (17, .sl 3 3), (23, .sl 4 1), (25, .k (.int .i64)), (26, .k (.int .i64))], [.box [.k (.ro [.int .i64, .int .i64, .int .i64, .int .i64, .int .i64]), .k (.ro [.int .i64, .int .i64]), .k (.ro [.int .i64, .int .i64, .int .i64])], .box [.k (.int .i64), .k (.int .i64), .k (.ro [.int .i64, .int .i64, .int .i64]), .k (.ro [.int .i64])], .row [.int .i64], .row [.int .i64, .int .i64, .int .i64], .row [.int .i64]])] [(.exit 4, [], [(220, [], [])]), (.ret, [14], [(220, [(14, .k .bool)], [])])]
end Go.Proofs.Ytgoedfonmocafaa
namespace Go.Proofs.Ytgoedfonmocafaa
open Go.Lite
def s42 : Sig := ⟨[.k (.ro [.int .i64]), .k (.ro [.int .i64])], [(.k .bool, [])]⟩
def l42_4 : LSig := mkLS [0, 1, 5] [(26, [(0, .k (.ro [.int .i64])), (1, .k (.ro [.int .i64])), (5, .k (.int .i64))], [])] [(.ret, [4], [(26, [(4, .k .bool)], [])]), (.exit 0, [], [(26, [], [])])]
end Go.Proofs.Ytgoedfonmocafaa
namespace Go.Proofs.Ytgoedfonmocafaa
open Go.Lite
noncomputable section
def G10 (ds : List D) : T (List D) := match ds with
  | [] => .leaf [.b true]
  | _ => .fail
def betwV (k : Nat) (lo hi : Int) (r u p : List (List D)) (a b : Int) : Int := sumAtM k lo hi r u p b - sumAtM k lo hi r u p a
def G12w (ds : List D) : T (List D) := match ds with
  | [p, c, j, lo, hi, r, u, a, b] => .need (yes (betwB lo.I hi.I r.L u.L p.L c.L j.L a.I b.I = true)) (.leaf [.i (betwV 0 lo.I hi.I r.L u.L p.L a.I b.I), .i (betwV 1 lo.I hi.I r.L u.L p.L a.I b.I), .i 0])
  | _ => .fail
def G14w (ds : List D) : T (List D) := match ds with
  | [t, r, s, l] => .need (yes (tankP t.I r.I s.I l.L)) (.ite (fuelOk t.I r.I s.I l.L) (.leaf [.i 1, .i l.L.length, .i 0, .l (outs l.L r.I s.I)]) (.leaf [.i 0, .i 5]))
  | _ => .fail
def rgI (t : List (List D)) (j : Nat) : Int := ix (t.getD j []) 0
def plF (cuts : List (List D)) (i : Nat) : List (List D) := [.i 0] :: (List.range i).map fun j => [.i (rgI cuts j)]
def cutAt (cuts : List (List D)) (n : Int) (j : Nat) : Bool := decide (rgI cuts j > rgI (plF cuts j) j) && decide (rgI cuts j < n)
def plL (p cuts : List (List D)) : List (List D) := plF cuts cuts.length ++ [[.i (lenR p)]]
def paceP (lo hi : Int) (r u p c j : List (List D)) : Prop := (roadP p c j ∧ spP lo hi r u) ∧ lenR p ≤ 120
def plOk (n : Int) (o : List (List D)) : Prop := o.length ≤ 10 ∧ ∀ k, k + 1 < o.length → 0 ≤ rgI o k ∧ rgI o k ≤ rgI o (k + 1) ∧ rgI o (k + 1) ≤ n
def legI (lo hi : Int) (r u p fills o : List (List D)) (k : Nat) : List D :=
  [.i ((betwV 0 lo hi r u p (rgI o k) (rgI o (k + 1))).tdiv 100000), .i ((betwV 1 lo hi r u p (rgI o k) (rgI o (k + 1))).tdiv 100000 + 1), .i (if k < fills.length then rgI fills k else 0)]
def legsF (lo hi : Int) (r u p fills o : List (List D)) (n : Nat) : List (List D) := (List.range n).map (legI lo hi r u p fills o)
def G3_5 (ds : List D) : T (Ex × List D) := match ds with
  | [cuts, sh, fi, ta, re, s, i, p, c, j, lo, hi, r, u, o] => .need (yes (manyP p.L ∧ lenR p.L ≤ 120 ∧ cuts.L.length ≤ 7 ∧ 0 ≤ i.I ∧ i.I ≤ cuts.L.length ∧ s.I = i.I + 1 ∧ o.L = plF cuts.L i.I.toNat))
      (.ite (allFrom (cutAt cuts.L (lenR p.L)) i.I.toNat (cuts.L.length - i.I.toNat)) (.leaf (.exit 0, [.l sh.L, .l fi.L, .i ta.I, .i re.I, .i (cuts.L.length + 1 : Nat), .l p.L, .l c.L, .l j.L, .i lo.I, .i hi.I, .l r.L, .l u.L, .l (plF cuts.L cuts.L.length)])) (.leaf (.ret, [.b true])))
  | _ => .fail
def G3_13 (ds : List D) : T (Ex × List D) := match ds with
  | [z, sh, fi, ta, re, s, i, p, c, j, lo, hi, r, u, o] => .need (yes (z.I = 0 ∧ paceP lo.I hi.I r.L u.L p.L c.L j.L ∧ plOk (lenR p.L) o.L ∧ s.I = o.L.length ∧ i.I = 0 ∧ 2 ≤ o.L.length))
      (.leaf (.exit 2, [.i 1, .l sh.L, .i ta.I, .i re.I, .i o.L.length, .i (o.L.length - 1 : Nat), .l p.L, .l c.L, .l j.L, .i lo.I, .i hi.I, .l r.L, .l u.L, .l o.L, .l (legsF lo.I hi.I r.L u.L p.L fi.L o.L (o.L.length - 1))]))
  | [z, sh, fi, ta, re, s, t, i, p, c, j, lo, hi, r, u, o, w] => .need (yes (z.I = 1 ∧ paceP lo.I hi.I r.L u.L p.L c.L j.L ∧ plOk (lenR p.L) o.L ∧ s.I = o.L.length ∧ 1 ≤ i.I ∧ i.I ≤ o.L.length - 1 ∧ t.I = i.I ∧ w.L = legsF lo.I hi.I r.L u.L p.L fi.L o.L i.I.toNat))
      (.leaf (.exit 2, [.i 1, .l sh.L, .i ta.I, .i re.I, .i o.L.length, .i (o.L.length - 1 : Nat), .l p.L, .l c.L, .l j.L, .i lo.I, .i hi.I, .l r.L, .l u.L, .l o.L, .l (legsF lo.I hi.I r.L u.L p.L fi.L o.L (o.L.length - 1))]))
  | _ => .fail
def levP (t r : Int) (l am : List (List D)) (i : Nat) (x : Int) : Prop := ∃ lo hi, (lo ≤ x ∧ x ≤ hi) ∧ (0 ≤ lo ∧ hi ≤ t) ∧ safeFrom t r l am i (l.length - i) lo hi = true
def amP (l am : List (List D)) : Prop := am.length = l.length ∧ ∀ k, k < l.length → 0 ≤ rgI am k ∧ rgI am k ≤ 1000000
def G3_31 (ds : List D) : T (Ex × List D) := match ds with
  | [_, ta, re, s, t, v, lev, i, p, c, j, lo, hi, r, u, o, w, l] => .need (yes ((paceP lo.I hi.I r.L u.L p.L c.L j.L ∧ plOk (lenR p.L) o.L) ∧ (s.I = o.L.length ∧ t.I = w.L.length ∧ v.I = l.L.length) ∧ (∃ fi, w.L = legsF lo.I hi.I r.L u.L p.L fi o.L w.L.length) ∧ w.L.length + 1 = o.L.length ∧ amP w.L l.L ∧
        (0 ≤ re.I ∧ ta.I ≤ 1000000) ∧ 0 ≤ i.I ∧ i.I ≤ w.L.length ∧ levP ta.I re.I w.L l.L i.I.toNat lev.I))
      (.leaf (.exit 4, []))
  | _ => .fail
end
end Go.Proofs.Ytgoedfonmocafaa
namespace Go.Proofs.Ytgoedfonmocafaa
open Go.Lite
noncomputable section
def G42 (ds : List D) : T (List D) := match ds with
  | [a, b] => .need (yes (a.L.length < big)) (.leaf [.b (sameL a.L b.L)])
  | _ => .fail
def G42_4 (ds : List D) : T (Ex × List D) := match ds with
  | [a, b, i] => .need (yes (a.L.length < big ∧ a.L.length = b.L.length ∧ 0 ≤ i.I ∧ i.I ≤ a.L.length))
      (.ite (allFrom (sameAt a.L b.L) i.I.toNat (a.L.length - i.I.toNat)) (.leaf (.exit 0, [])) (.leaf (.ret, [.b false])))
  | _ => .fail
end
end Go.Proofs.Ytgoedfonmocafaa
namespace Go.Proofs.Ytgoedfonmocafaa
open Go.Lite
noncomputable def sp42 : SpL := []
noncomputable def lp42 : LpL := [(4, mkL l42_4 G42_4)]
noncomputable def sw42 : SwL := []
noncomputable def tab42 : Tab := mkTab sp42 lp42 sw42
noncomputable def sp10 : SpL := [(12, mkF s12 G12w), (14, mkF s14 G14w), (41, mkF s41 G41), (42, mkF s42 G42)]
noncomputable def lp10 : LpL := []
noncomputable def sw10 : SwL := []
noncomputable def tab10 : Tab := mkTab sp10 lp10 sw10
end Go.Proofs.Ytgoedfonmocafaa
namespace Go.Proofs.Ytgoedfonmocafaa
open Go.Lite
set_option linter.unusedVariables false
set_option maxRecDepth 100000
theorem t42 (a b : D) : fnT C tab42 42 s42 [a, b] =
  T.ite ((a.L.length : Int) != (b.L.length : Int)) (T.leaf [D.b false]) (T.need (yes (a.L.length < big ∧ a.L.length = b.L.length ∧ (0 : Int) ≤ (0 : Int) ∧ (0 : Int) ≤ (a.L.length : Int))) (T.ite (allFrom (sameAt a.L b.L) (Int.toNat (0 : Int)) (a.L.length - Int.toNat (0 : Int))) (T.leaf [D.b true]) (T.leaf [D.b false]))) := by kernel_rfl
theorem t42_4 (a b c : D) : roundT C tab42 42 (loopOf C.P 42 4) l42_4 [a, b, c] =
  T.ite (decide (c.I < (a.L.length : Int))) (T.need (decide ((0 : Int) ≤ c.I ∧ c.I < (a.L.length : Int))) (T.need (decide ((0 : Int) ≤ c.I ∧ c.I < (b.L.length : Int))) (T.ite (D.I (List.getD (List.getD a.L c.I.toNat []) 0 default) != D.I (List.getD (List.getD b.L c.I.toNat []) 0 default)) (T.leaf (Rd.out Ex.ret [D.b false])) (T.leaf (Rd.again [D.l a.L, D.l b.L, D.i (IntKind.wrap IntKind.i64 (c.I + (1 : Int)))]))))) (T.leaf (Rd.out (Ex.exit 0) [])) := by kernel_rfl
theorem t10 : fnT C tab10 10 s10 [] =
  T.need true (T.need true (T.need true (T.need (yes (betwB (100 : Int) (200 : Int) (List.take (List.length [[D.i 5, D.i 50, D.i 100]]) [[D.i 5, D.i 50, D.i 100]]) (List.take (List.length [[D.i 100], [D.i 100], [D.i 100], [D.i 100], [D.i 100], [D.i 100], [D.i 100], [D.i 100], [D.i 100]]) [[D.i 100], [D.i 100], [D.i 100], [D.i 100], [D.i 100], [D.i 100], [D.i 100], [D.i 100], [D.i 100]]) (List.take (List.length [[D.i 1000, D.i 0, D.i 0, D.i 50, D.i 1]]) [[D.i 1000, D.i 0, D.i 0, D.i 50, D.i 1]]) [] [] (0 : Int) (1000 : Int) = true)) (T.need true (T.need (yes (tankP (50 : Int) (5 : Int) (10 : Int) (List.take (List.length [[D.i 10, D.i 20, D.i 30], [D.i 10, D.i 25, D.i 30]]) [[D.i 10, D.i 20, D.i 30], [D.i 10, D.i 25, D.i 30]]))) (T.ite true (T.need true (T.ite true (T.ite true (T.ite true (T.ite true (T.ite true (T.ite true (T.need true (T.need true (T.need (yes (List.length (List.take (Int.toNat (↑(List.length (List.take (List.length [[D.i 10, D.i 20, D.i 30], [D.i 10, D.i 25, D.i 30]]) [[D.i 10, D.i 20, D.i 30], [D.i 10, D.i 25, D.i 30]])) : Int)) (outs (List.take (List.length [[D.i 10, D.i 20, D.i 30], [D.i 10, D.i 25, D.i 30]]) [[D.i 10, D.i 20, D.i 30], [D.i 10, D.i 25, D.i 30]]) (5 : Int) (10 : Int))) < big)) (T.ite true (T.leaf [D.b true]) (T.leaf [D.b false]))))) (T.leaf [D.b false])) (T.leaf [D.b false])) (T.leaf [D.b false])) (T.leaf [D.b false])) (T.leaf [D.b false])) (T.ite true (T.ite true (T.ite false (T.ite true (T.ite true (T.need true (T.need true (T.need (yes (List.length (List.take (Int.toNat (↑(List.length (List.take (List.length [[D.i 10, D.i 20, D.i 30], [D.i 10, D.i 25, D.i 30]]) [[D.i 10, D.i 20, D.i 30], [D.i 10, D.i 25, D.i 30]])) : Int)) (outs (List.take (List.length [[D.i 10, D.i 20, D.i 30], [D.i 10, D.i 25, D.i 30]]) [[D.i 10, D.i 20, D.i 30], [D.i 10, D.i 25, D.i 30]]) (5 : Int) (10 : Int))) < big)) (T.ite true (T.leaf [D.b false]) (T.leaf [D.b false]))))) (T.leaf [D.b false])) (T.leaf [D.b false])) (T.leaf [D.b false])) (T.leaf [D.b false])) (T.leaf [D.b false])))) (T.need true (T.ite true (T.ite true (T.ite false (T.ite true (T.ite true (T.ite true (T.need true (T.need (yes (List.length ([] : List (List D)) < big)) (T.ite false (T.leaf [D.b true]) (T.leaf [D.b false])))) (T.leaf [D.b false])) (T.leaf [D.b false])) (T.leaf [D.b false])) (T.leaf [D.b false])) (T.leaf [D.b false])) (T.ite true (T.ite false (T.ite false (T.ite true (T.ite true (T.need true (T.need (yes (List.length ([] : List (List D)) < big)) (T.ite false (T.leaf [D.b false]) (T.leaf [D.b false])))) (T.leaf [D.b false])) (T.leaf [D.b false])) (T.leaf [D.b false])) (T.leaf [D.b false])) (T.leaf [D.b false])))))))))) := by kernel_rfl
end Go.Proofs.Ytgoedfonmocafaa
namespace Go.Proofs.Ytgoedfonmocafaa
open Go.Lite
theorem ok42_4 (n : Nat) : LoopSim C n 42 (loopOf C.P 42 4) (mkL l42_4 G42_4) := by
  refine loop_of hC (sp := sp42) (lp := lp42) trivial [] (by kernel_rfl) rfl (fun k hk => by cases hk) (by kernel_rfl) (fun ds => (((ds.getD 0 default).L.length : Int) - (ds.getD 2 default).I).toNat) fun ds r h => ?_
  unfold G42_4 at h
  split at h
  · rename_i a b i
    obtain ⟨hp, h⟩ := need_some h
    rw [yes_iff] at hp
    obtain ⟨h1, h2, h3, h4⟩ := hp
    have hb : big = 4611686018427387904 := rfl
    refine ⟨by rw [fuelC]; simp; omega, ?_⟩
    rw [show roundT C (mkTab sp42 lp42) 42 (loopOf C.P 42 4) l42_4 [a, b, i] = _ from t42_4 a b i]
    obtain ⟨k, hk⟩ : ∃ k : Nat, i.I = k := ⟨i.I.toNat, by omega⟩
    simp only [run_ite, run_need, run_leaf, hk, Int.toNat_natCast] at h h4 ⊢
    refine all_loop (p := sameAt a.L b.L) (i := k) (len := a.L.length) [D.l a.L, D.l b.L, D.i (k + 1 : Nat)] h ?_ ?_
    · simp only [wrap_succ (show k < 9223372036854775807 by omega), ix_def, sameAt]
      grind
    · intro hlt hp hh
      refine ⟨Eq.trans (need_yes (p := _) (t := _) ?_) hh, ?_⟩
      · simp only [I_i, L_l]
        exact ⟨h1, h2, by omega, by omega⟩
      · show ((a.L.length : Int) - ((k + 1 : Nat) : Int)).toNat < ((a.L.length : Int) - i.I).toNat
        omega
  · cases h
theorem ok42 (n : Nat) : FnOK C (n + 1) 42 (mkF s42 G42) := by
  refine fn_of hC (sp := sp42) (lp := lp42) trivial (by kernel_rfl) [4] (by kernel_rfl) (by kernel_rfl) (fun k hk L hL => by simp at hk; subst hk; cases hL; exact ok42_4 n) fun ds r h => ?_
  unfold G42 at h
  split at h
  · rename_i a b
    obtain ⟨hp, h⟩ := need_some h
    rw [yes_iff] at hp
    rw [← h]
    refine (congrArg T.run (t42 a b)).trans ?_
    have e1 : ((a.L.length : Int) = b.L.length) ↔ a.L.length = b.L.length := Int.ofNat_inj
    simp only [run_ite, run_need, run_leaf, yes_iff, Int.toNat_zero, Nat.sub_zero, sameL]
    grind
  · cases h
end Go.Proofs.Ytgoedfonmocafaa
namespace Go.Proofs.Ytgoedfonmocafaa
open Go.Lite
noncomputable def sp3 : SpL := [(8, mkF s8 G8), (9, mkF s9 G9), (10, mkF s10 G10), (11, mkF s11 G11), (12, mkF s12 G12w), (13, mkF s13 G13), (14, mkF s14 G14w)]
noncomputable def lp3 : LpL := [(5, mkL l3_5 G3_5), (13, mkL l3_13 G3_13), (31, mkL l3_31 G3_31)]
noncomputable def sw3 : SwL := []
noncomputable def tab3 : Tab := mkTab sp3 lp3 sw3
end Go.Proofs.Ytgoedfonmocafaa
