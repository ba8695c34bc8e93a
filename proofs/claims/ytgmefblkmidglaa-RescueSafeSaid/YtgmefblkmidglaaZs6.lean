/-
  What the claim rescue_safe rests on, part 6.
-/
import Derived.Test.YtgmefblkmidglaaZs5
import Derived.Test.YtgmefblkmidglaaProg
namespace Go.Proofs.Ytgmefblkmidglaa
open Go.Lite
def annL : List (Nat × Nat × List Nat) :=
  [(4, 13, [9, 13, 14]),
   (5, 9, [1, 2, 3, 6, 11, 13, 14, 15, 16, 18, 20]),
   (5, 20, [1, 2, 3, 6, 13, 14, 15, 16, 22, 24]),
   (5, 28, [3, 6, 13, 14, 16, 25, 26, 27]),
   (6, 4, [1, 2, 3, 7]),
   (6, 12, [1, 3, 8, 10]),
   (6, 17, [1, 3, 8, 10, 11, 12]),
   (6, 24, [3, 8, 14]),
   (7, 10, [9, 11, 12]),
   (8, 6, [1, 2, 3, 5, 6, 10, 13, 14, 15, 16]),
   (8, 15, [1, 2, 3, 13, 18, 20]),
   (8, 19, [1, 2, 3, 13, 18, 20, 21, 22]),
   (8, 25, [1, 2, 3, 13, 23]),
   (8, 29, [1, 2, 3, 13, 23, 24]),
   (8, 33, [1, 2, 3, 13, 23, 24, 25, 26, 27]),
   (8, 37, [1, 2, 3, 13, 23, 24, 25, 26, 28]),
   (10, 5, [1, 2, 3, 4, 5, 11, 12]),
   (10, 17, [1, 2, 3, 5, 11, 13, 15, 17, 18]),
   (11, 10, [1, 5, 7, 8]),
   (12, 8, [1, 2, 3, 4, 5, 11, 13, 15]),
   (12, 18, [2, 3, 4, 5, 11, 13, 17]),
   (12, 27, [5, 11, 13, 22]),
   (13, 8, [1, 2, 3, 4, 9, 11, 12]),
   (14, 4, [1, 2, 3, 8, 9]),
   (15, 4, [1, 3]),
   (18, 4, [1, 19, 20, 21]),
   (18, 10, [1, 5, 19, 20, 21, 61, 62, 63]),
   (19, 4, [1, 3]),
   (21, 4, [0, 1, 5]),
   (23, 8, [3, 4, 11, 12, 13]),
   (23, 11, [3, 4, 11, 12, 13, 14]),
   (23, 14, [3, 4, 11, 12, 13, 14, 69, 70, 71]),
   (24, 3, [1, 2, 3, 4, 9, 10]),
   (24, 7, [3, 4, 9, 10, 11, 12, 13]),
   (24, 10, [3, 4, 9, 10, 11, 12, 13, 14]),
   (25, 2, [1, 2, 5]),
   (28, 2, [0, 1, 5]),
   (29, 2, [0, 1, 5]),
   (30, 3, [1, 2, 3, 4, 9, 10]),
   (30, 7, [1, 2, 3, 4, 9, 10, 11, 12]),
   (30, 11, [1, 2, 3, 4, 9, 10, 11, 12, 13, 14]),
   (31, 2, [0, 1, 2, 7]),
   (32, 8, [5, 10, 11, 12]),
   (33, 2, [1, 2, 3, 4, 10]),
   (33, 6, [1, 2, 3, 4, 10, 11, 12]),
   (33, 10, [1, 2, 3, 4, 10, 11, 12, 13, 14]),
   (34, 5, [4, 58, 59]),
   (36, 3, [1, 3, 4]),
   (40, 8, [1, 2, 8, 46, 47, 48]),
   (41, 4, [0, 1, 5]),
   (43, 3, [0, 2, 3, 5, 9, 10, 11]),
   (43, 12, [0, 2, 3, 5, 9, 10, 12]),
   (43, 17, [0, 2, 3, 5, 13]),
   (43, 21, [0, 2, 3, 5, 13, 14, 15, 16, 17]),
   (43, 34, [0, 5, 19]),
   (46, 3, [7, 17, 18, 19]),
   (48, 4, [3, 5]),
   (49, 3, [1, 2, 3, 4, 9, 10]),
   (49, 8, [3, 4, 9, 11]),
   (49, 12, [3, 4, 9, 11, 12, 13]),
   (50, 3, [2, 3, 4, 5, 9, 19, 20]),
   (50, 9, [2, 4, 9, 33, 34]),
   (50, 12, [2, 4, 9, 11, 33, 34, 40, 41]),
   (50, 17, [2, 4, 9, 11, 33, 34, 49, 50, 51]),
   (51, 2, [1, 2, 8, 9, 10]),
   (53, 3, [1, 3, 4, 8, 9, 14, 15, 16]),
   (53, 10, [1, 3, 4, 8, 9, 10, 12, 14, 15, 16, 25]),
   (55, 4, [0, 3, 4, 5, 6, 7, 13, 22, 23, 24]),
   (55, 11, [16, 42, 43, 44]),
   (55, 17, [0, 2, 3, 8, 19]),
   (57, 5, [0, 1, 7, 8]),
   (57, 9, [0, 1, 7, 8, 9, 10]),
   (60, 6, [0, 1, 2, 7, 8, 9]),
   (60, 14, [0, 1, 2, 7, 8, 11]),
   (60, 28, [8, 13, 14]),
   (73, 3, [2, 4, 6, 7, 15, 16]),
   (73, 9, [2, 6, 7, 9]),
   (73, 14, [2, 6, 7, 9, 51]),
   (75, 1, [0, 2, 3, 8, 9, 10]),
   (82, 3, [0, 1, 2, 3, 11, 12, 13]),
   (83, 3, [0, 1, 5, 6]),
   (94, 2, [0, 1, 7, 8]),
   (95, 2, [0, 1, 7, 8]),
   (96, 1, [0, 1, 2, 3, 4, 6]),
   (96, 6, [0, 1, 2, 3, 4, 6, 7, 8, 9, 28, 29, 30]),
   (97, 3, [7, 18, 19]),
   (98, 2, [0, 1, 7, 8]),
   (100, 2, [0, 1, 7, 8]),
   (101, 0, [0, 1]),
   (103, 1, [0, 2, 3, 8, 9, 10]),
   (104, 3, [2, 3, 4, 9]),
   (106, 1, [0, 1, 3]),
   (129, 2, [0, 1, 2, 7])]
def annXL : List (Nat × Nat × Option Nat × List Nat) :=
  [(4, 13, some 0, []),
   (4, 13, none, [8]),
   (5, 9, some 0, [1, 2, 3, 6, 11, 13, 14, 15, 16]),
   (5, 9, none, [12]),
   (5, 20, some 2, [1, 2, 3, 6, 13, 14, 15, 16]),
   (5, 20, none, [12]),
   (5, 28, some 4, [3, 14, 16, 25, 26]),
   (5, 28, none, [12]),
   (6, 4, some 0, [1, 2, 3]),
   (6, 4, none, [6]),
   (6, 12, some 2, [3, 8]),
   (6, 12, none, [6]),
   (6, 17, some 4, [1, 3, 8, 10, 11]),
   (6, 17, none, [6]),
   (6, 24, some 6, []),
   (6, 24, none, [6]),
   (7, 10, some 0, []),
   (7, 10, none, [8]),
   (8, 6, some 0, [1, 2, 3, 6, 10, 13, 14, 15]),
   (8, 6, none, [12]),
   (8, 15, some 2, [1, 2, 3, 13]),
   (8, 15, none, [12]),
   (8, 19, some 4, [1, 2, 3, 13, 18, 20, 21]),
   (8, 19, none, [12]),
   (8, 25, some 6, []),
   (8, 25, none, [12]),
   (8, 29, some 8, [1, 2, 3, 13, 23]),
   (8, 29, none, [12]),
   (8, 33, some 10, [1, 2, 3, 13, 23, 24, 25, 26]),
   (8, 33, none, [12]),
   (8, 37, some 12, [1, 2, 3, 13, 23, 24, 25, 26]),
   (8, 37, none, [12]),
   (10, 5, some 0, [1, 2, 3, 5, 11]),
   (10, 5, none, [10]),
   (10, 17, some 2, [2, 3, 5, 11, 13, 15, 17]),
   (10, 17, none, [10]),
   (11, 10, some 0, []),
   (11, 10, none, [4]),
   (12, 8, some 0, [2, 3, 4, 5, 11, 13]),
   (12, 8, none, [10]),
   (12, 18, some 2, [3, 4, 5, 11, 13]),
   (12, 18, none, [10]),
   (12, 27, some 4, []),
   (12, 27, none, [10]),
   (13, 8, some 0, []),
   (13, 8, none, [8]),
   (14, 4, some 0, []),
   (14, 4, none, [6]),
   (15, 4, some 0, []),
   (15, 4, none, [2]),
   (18, 4, some 0, []),
   (18, 4, none, [2]),
   (18, 10, some 2, [1, 19, 20, 21]),
   (18, 10, none, [2]),
   (19, 4, some 0, []),
   (19, 4, none, [2]),
   (21, 4, some 0, []),
   (21, 4, none, [4]),
   (23, 8, some 0, [3, 4, 11, 12, 13]),
   (23, 8, none, [8, 9, 10]),
   (23, 11, some 2, [11, 14]),
   (23, 11, none, [8, 9, 10]),
   (23, 14, some 3, [3, 4, 11, 12, 13, 14]),
   (23, 14, some 4, [3, 4, 11, 12, 13, 14]),
   (23, 14, none, [8, 9, 10]),
   (24, 3, some 0, [1, 2, 3, 4, 9, 10]),
   (24, 3, none, [8]),
   (24, 7, some 2, [11]),
   (24, 7, none, [8]),
   (24, 10, some 4, [3, 4, 9, 10, 11, 12, 13]),
   (24, 10, none, [8]),
   (25, 2, some 0, [1]),
   (25, 2, none, [4]),
   (28, 2, some 0, []),
   (28, 2, none, [4]),
   (29, 2, some 0, [1]),
   (29, 2, none, [4]),
   (30, 3, some 0, [9]),
   (30, 3, none, [8]),
   (30, 7, some 2, [1, 2, 3, 4, 9, 10]),
   (30, 7, none, [8]),
   (30, 11, some 4, [1, 2, 3, 4, 9, 10, 11, 12, 13]),
   (30, 11, none, [8]),
   (31, 2, some 0, []),
   (31, 2, none, [6]),
   (32, 8, some 0, [10]),
   (32, 8, none, [8, 9]),
   (33, 2, some 0, []),
   (33, 2, none, [8, 9]),
   (33, 6, some 2, [1, 2, 3, 4, 10]),
   (33, 6, none, [8, 9]),
   (33, 10, some 4, [1, 2, 3, 4, 10, 11, 12, 13]),
   (33, 10, none, [8, 9]),
   (34, 5, some 0, [4]),
   (34, 5, none, [2, 3]),
   (36, 3, some 0, [3]),
   (36, 3, none, [2]),
   (40, 8, some 0, [8]),
   (40, 8, none, [6, 7]),
   (41, 4, some 0, []),
   (41, 4, none, [4]),
   (43, 3, some 0, [0, 2, 3, 5, 9, 10]),
   (43, 3, none, [8]),
   (43, 12, some 2, [0, 2, 3, 5]),
   (43, 12, none, [8]),
   (43, 17, some 4, [0, 5]),
   (43, 17, none, [8]),
   (43, 21, some 6, [0, 2, 3, 5, 13, 14, 15, 16]),
   (43, 21, none, [8]),
   (43, 34, some 8, []),
   (43, 34, none, [8]),
   (46, 3, some 0, [7]),
   (46, 3, none, [6]),
   (48, 4, some 0, []),
   (48, 4, none, [4]),
   (49, 3, some 0, [1, 2, 3, 4, 9]),
   (49, 3, none, [8]),
   (49, 8, some 2, [9]),
   (49, 8, none, [8]),
   (49, 12, some 4, [3, 4, 11, 12]),
   (49, 12, none, [8]),
   (50, 3, some 0, [2, 3, 4, 5, 9]),
   (50, 3, none, [8]),
   (50, 9, some 2, [2, 9]),
   (50, 9, none, [8]),
   (50, 12, some 4, [2, 4, 9, 11, 33, 34]),
   (50, 12, none, [8]),
   (50, 17, some 6, [2, 4, 11, 33, 34]),
   (50, 17, none, [8]),
   (51, 2, some 0, [1]),
   (51, 2, none, [4]),
   (53, 3, some 0, [9]),
   (53, 3, none, [8]),
   (55, 4, some 0, [0, 4, 5, 6, 7, 13]),
   (55, 4, none, [12]),
   (55, 11, some 2, [16]),
   (55, 11, none, [12]),
   (55, 17, some 4, []),
   (55, 17, none, [12]),
   (57, 5, some 0, [7]),
   (57, 5, none, [6]),
   (57, 9, some 2, [0, 1, 7, 8]),
   (57, 9, none, [6]),
   (60, 6, some 0, [0, 1, 2, 7, 8]),
   (60, 6, none, [6]),
   (60, 14, some 2, [8]),
   (60, 14, none, [6]),
   (60, 28, some 4, [13]),
   (60, 28, none, [6]),
   (73, 3, some 0, [2, 4, 6, 7]),
   (73, 3, none, [6]),
   (73, 9, some 2, [7]),
   (73, 9, none, [6]),
   (75, 1, some 0, []),
   (75, 1, none, []),
   (82, 3, some 0, [12]),
   (82, 3, none, [10]),
   (83, 3, some 0, [5]),
   (83, 3, none, [4]),
   (94, 2, some 0, []),
   (94, 2, none, [4]),
   (95, 2, some 0, []),
   (95, 2, none, [4]),
   (96, 1, some 0, []),
   (96, 1, none, []),
   (96, 6, some 2, [0, 1, 2, 3, 4, 6, 8, 9]),
   (96, 6, none, []),
   (97, 3, some 0, [7]),
   (97, 3, none, [6]),
   (98, 2, some 0, []),
   (98, 2, none, [4]),
   (100, 2, some 0, []),
   (100, 2, none, [4]),
   (101, 0, some 0, []),
   (101, 0, none, []),
   (103, 1, some 0, []),
   (103, 1, none, []),
   (106, 1, some 0, []),
   (106, 1, none, []),
   (129, 2, some 0, [1, 7]),
   (129, 2, none, [6])]
def annOf (f : FuncId) (k : Nat) : Option (List Nat) := (annL.find? fun x => x.1 == f && x.2.1 == k).map (·.2.2)
def annXOf (f : FuncId) (k : Nat) (e : Option Nat) : Option (List Nat) := (annXL.find? fun x => x.1 == f && x.2.1 == k && x.2.2.1 == e).map (·.2.2.2)
def wrL : List (Nat × List Bool) := [(37, [true, true, false]), (38, [true, false]), (39, [true, false, false]), (55, [true, false, false, false, false, true, false, false, false]), (59, [true, false]), (63, [true, true]), (64, [true, false, false, false]), (74, [true, true, true]), (81, [true, true, true, true]), (93, [true, false]), (101, [true, false]), (102, [true, true, true]), (105, [true]), (125, [true, false]), (126, [true, false, false]), (127, [true]), (128, [true]), (129, [true, false, false]), (131, [true])]
def wrOf (f : FuncId) : List Bool := ((wrL.find? fun x => x.1 == f).map (·.2)).getD []
noncomputable def C0 : Cfg := { P := Try.prog, ty := tyOf Try.prog, wr := wrOf, ann := annOf, annX := annXOf, fuel := 2 ^ 64, frz := fun f => f == 46 || f == 97, give := fun _ _ => false, ext := fun _ => none }
theorem own : ownKnob Try.prog.godebug = none := by kernel_rfl
theorem mixed : Try.prog.follows .mixedOrders = true := by kernel_rfl
def fnOk (fn : Func) : Bool := match fn.body with
  | none => true
  | some c => fn.name != "runtime.NumGoroutine" && regsOk c
theorem fnsOk : Try.prog.funcs.toList.all fnOk = true := by kernel_rfl
theorem fn_ok {f : FuncId} {fn : Func} {c : Code} (h : Try.prog.funcs[f]? = some fn) (hb : fn.body = some c) : fn.name ≠ "runtime.NumGoroutine" ∧ regsOk c = true := by
  have hm : fn ∈ Try.prog.funcs := Array.mem_of_getElem? h
  have := List.all_eq_true.1 fnsOk fn (by simpa using hm)
  unfold fnOk at this
  rw [hb] at this
  simpa using this
theorem callsOk0 (n : Nat) : CallOK C0.P (callA C0 n) := by
  refine calls_ok (C := C0) ?_ ?_ mixed ?_ ?_ n
  · intro t T h
    dsimp only [C0] at h ⊢
    exact h
  · intro f E h
    delta C0 at h
    cases h
  · intro f fn h hb
    obtain ⟨c, hc⟩ := Option.isSome_iff_exists.1 hb
    exact (fn_ok h hc).1
  · exact fun f fn c h hb => (fn_ok h hb).2
end Go.Proofs.Ytgmefblkmidglaa
namespace Go.Proofs.Ytgmefblkmidglaa
open Go.Lite
set_option maxRecDepth 100000
def kNet : AV := .agg [.int .i64 3, .ro .n true 4 [[.int .i64 0, .int .i64 1, .int .i64 10, .nils], [.int .i64 1, .int .i64 2, .int .i64 5, .ro .b true 2 [[.int .i64 12, .int .i64 20]]], [.int .i64 0, .int .i64 2, .int .i64 30, .nils]]]
def kRow0 : Row := ⟨46, [kNet, .int .i64 0, .int .i64 8], .ro .g true 1 [[.int .i64 8], [.int .i64 18], [.int .i64 25]]⟩
theorem kR0 : callA C0 8 Unit none kRow0.f kRow0.args [] () = some (kRow0.res, [], ()) := by kernel_rfl
def kRow1 : Row := ⟨46, [kNet, .int .i64 0, .int .i64 0], .ro .g true 1 [[.int .i64 0], [.int .i64 10], [.int .i64 25]]⟩
theorem kR1 : callA C0 8 Unit none kRow1.f kRow1.args [] () = some (kRow1.res, [], ()) := by kernel_rfl
def kRow2 : Row := ⟨97, [kNet, .int .i64 2, .int .i64 15], .ro .g true 1 [[.int .i64 (-3)], [.int .i64 7], [.int .i64 15]]⟩
theorem kR2 : callA C0 8 Unit none kRow2.f kRow2.args [] () = some (kRow2.res, [], ()) := by kernel_rfl
def kRow3 : Row := ⟨97, [kNet, .int .i64 2, .int .i64 25], .ro .g true 1 [[.int .i64 10], [.int .i64 20], [.int .i64 25]]⟩
theorem kR3 : callA C0 8 Unit none kRow3.f kRow3.args [] () = some (kRow3.res, [], ()) := by kernel_rfl
def kRow4 : Row := ⟨97, [kNet, .int .i64 2, .int .i64 26], .ro .g true 1 [[.int .i64 11], [.int .i64 21], [.int .i64 26]]⟩
theorem kR4 : callA C0 8 Unit none kRow4.f kRow4.args [] () = some (kRow4.res, [], ()) := by kernel_rfl
def kRow5 : Row := ⟨97, [kNet, .int .i64 2, .int .i64 27], .ro .g true 1 [[.int .i64 12], [.int .i64 22], [.int .i64 27]]⟩
theorem kR5 : callA C0 8 Unit none kRow5.f kRow5.args [] () = some (kRow5.res, [], ()) := by kernel_rfl
def kRow6 : Row := ⟨97, [kNet, .int .i64 2, .int .i64 28], .ro .g true 1 [[.int .i64 13], [.int .i64 23], [.int .i64 28]]⟩
theorem kR6 : callA C0 8 Unit none kRow6.f kRow6.args [] () = some (kRow6.res, [], ()) := by kernel_rfl
def kRow7 : Row := ⟨97, [kNet, .int .i64 2, .int .i64 29], .ro .g true 1 [[.int .i64 14], [.int .i64 24], [.int .i64 29]]⟩
theorem kR7 : callA C0 8 Unit none kRow7.f kRow7.args [] () = some (kRow7.res, [], ()) := by kernel_rfl
def kRow8 : Row := ⟨97, [kNet, .int .i64 2, .int .i64 30], .ro .g true 1 [[.int .i64 15], [.int .i64 25], [.int .i64 30]]⟩
theorem kR8 : callA C0 8 Unit none kRow8.f kRow8.args [] () = some (kRow8.res, [], ()) := by kernel_rfl
def kRow9 : Row := ⟨97, [kNet, .int .i64 2, .int .i64 31], .ro .g true 1 [[.int .i64 16], [.int .i64 26], [.int .i64 31]]⟩
theorem kR9 : callA C0 8 Unit none kRow9.f kRow9.args [] () = some (kRow9.res, [], ()) := by kernel_rfl
def kRow10 : Row := ⟨97, [kNet, .int .i64 2, .int .i64 32], .ro .g true 1 [[.int .i64 17], [.int .i64 27], [.int .i64 32]]⟩
theorem kR10 : callA C0 8 Unit none kRow10.f kRow10.args [] () = some (kRow10.res, [], ()) := by kernel_rfl
def kRow11 : Row := ⟨97, [kNet, .int .i64 2, .int .i64 33], .ro .g true 1 [[.int .i64 18], [.int .i64 28], [.int .i64 33]]⟩
theorem kR11 : callA C0 8 Unit none kRow11.f kRow11.args [] () = some (kRow11.res, [], ()) := by kernel_rfl
def kRow12 : Row := ⟨97, [kNet, .int .i64 2, .int .i64 34], .ro .g true 1 [[.int .i64 19], [.int .i64 29], [.int .i64 34]]⟩
theorem kR12 : callA C0 8 Unit none kRow12.f kRow12.args [] () = some (kRow12.res, [], ()) := by kernel_rfl
def kRow13 : Row := ⟨97, [kNet, .int .i64 2, .int .i64 35], .ro .g true 1 [[.int .i64 20], [.int .i64 30], [.int .i64 35]]⟩
theorem kR13 : callA C0 8 Unit none kRow13.f kRow13.args [] () = some (kRow13.res, [], ()) := by kernel_rfl
def kRow14 : Row := ⟨97, [kNet, .int .i64 2, .int .i64 36], .ro .g true 1 [[.int .i64 21], [.int .i64 31], [.int .i64 36]]⟩
theorem kR14 : callA C0 8 Unit none kRow14.f kRow14.args [] () = some (kRow14.res, [], ()) := by kernel_rfl
def kRow15 : Row := ⟨97, [kNet, .int .i64 2, .int .i64 37], .ro .g true 1 [[.int .i64 22], [.int .i64 32], [.int .i64 37]]⟩
theorem kR15 : callA C0 8 Unit none kRow15.f kRow15.args [] () = some (kRow15.res, [], ()) := by kernel_rfl
def kRow16 : Row := ⟨97, [kNet, .int .i64 2, .int .i64 38], .ro .g true 1 [[.int .i64 23], [.int .i64 33], [.int .i64 38]]⟩
theorem kR16 : callA C0 8 Unit none kRow16.f kRow16.args [] () = some (kRow16.res, [], ()) := by kernel_rfl
def kRow17 : Row := ⟨97, [kNet, .int .i64 2, .int .i64 39], .ro .g true 1 [[.int .i64 24], [.int .i64 34], [.int .i64 39]]⟩
theorem kR17 : callA C0 8 Unit none kRow17.f kRow17.args [] () = some (kRow17.res, [], ()) := by kernel_rfl
def kRow18 : Row := ⟨97, [kNet, .int .i64 2, .int .i64 40], .ro .g true 1 [[.int .i64 25], [.int .i64 35], [.int .i64 40]]⟩
theorem kR18 : callA C0 8 Unit none kRow18.f kRow18.args [] () = some (kRow18.res, [], ()) := by kernel_rfl
def kRow19 : Row := ⟨97, [kNet, .int .i64 2, .int .i64 41], .ro .g true 1 [[.int .i64 26], [.int .i64 36], [.int .i64 41]]⟩
theorem kR19 : callA C0 8 Unit none kRow19.f kRow19.args [] () = some (kRow19.res, [], ()) := by kernel_rfl
def kRow20 : Row := ⟨97, [kNet, .int .i64 2, .int .i64 42], .ro .g true 1 [[.int .i64 27], [.int .i64 37], [.int .i64 42]]⟩
theorem kR20 : callA C0 8 Unit none kRow20.f kRow20.args [] () = some (kRow20.res, [], ()) := by kernel_rfl
def kRow21 : Row := ⟨97, [kNet, .int .i64 2, .int .i64 43], .ro .g true 1 [[.int .i64 28], [.int .i64 38], [.int .i64 43]]⟩
theorem kR21 : callA C0 8 Unit none kRow21.f kRow21.args [] () = some (kRow21.res, [], ()) := by kernel_rfl
def kRow22 : Row := ⟨97, [kNet, .int .i64 2, .int .i64 44], .ro .g true 1 [[.int .i64 29], [.int .i64 39], [.int .i64 44]]⟩
theorem kR22 : callA C0 8 Unit none kRow22.f kRow22.args [] () = some (kRow22.res, [], ()) := by kernel_rfl
def kTbl : List Row := [kRow0, kRow1, kRow2, kRow3, kRow4, kRow5, kRow6, kRow7, kRow8, kRow9, kRow10, kRow11, kRow12, kRow13, kRow14, kRow15, kRow16, kRow17, kRow18, kRow19, kRow20, kRow21, kRow22]
noncomputable def C1 : Cfg := { C0 with frz := fun _ => false, ext := extT kTbl }
theorem kTbl_ok : RowsOK C0 8 kTbl := ⟨kR0, kR1, kR2, kR3, kR4, kR5, kR6, kR7, kR8, kR9, kR10, kR11, kR12, kR13, kR14, kR15, kR16, kR17, kR18, kR19, kR20, kR21, kR22, trivial⟩
theorem callsOk1 (n : Nat) : CallOK C1.P (callA C1 n) := by
  refine calls_ok (C := C1) ?_ ?_ mixed ?_ ?_ n
  · intro t T h
    dsimp only [C1, C0] at h ⊢
    exact h
  · exact ext_ok (C0 := C0) rfl rfl (callsOk0 8) kTbl_ok
  · intro f fn h hb
    obtain ⟨c, hc⟩ := Option.isSome_iff_exists.1 hb
    exact (fn_ok h hc).1
  · exact fun f fn c h hb => (fn_ok h hb).2
end Go.Proofs.Ytgmefblkmidglaa
namespace Go.Proofs.Ytgmefblkmidglaa
open Go.Lite
set_option maxRecDepth 100000
noncomputable def kfn : Func := fnAt C1.P 16
noncomputable def kbody : Code := bodyOf kfn
def ks0 : St := { tmps := List.replicate 100 .und, h := [] }
def ks1 : St := { tmps := [.bool false, .und, .und, .und, .und, .und, .und, .und, .und, .und, .und, .und, .und, .und, .und, .und, .und, .und, .und, .und, .und, .und, .und, .und, .und, .und, .und, .und, .und, .und, .und, .und, .und, .und, .und, .und, .und, .und, .und, .und, .und, .und, .und, .und, .und, .und, .und, .und, .und, .und, .und, .und, .und, .und, .und, .und, .und, .und, .und, .und, .und, .und, .und, .und, .und, .und, .und, .und, .und, .und, .und, .und, .und, .und, .und, .und, .und, .und, .und, .und, .und, .und, .und, .und, .und, .und, .und, .und, .und, .und, .und, .und, .und, .und, .und, .und, .und, .und, .und, .und], h := [] }
def ks2 : St := { tmps := [.bool false, .ro .g true 1 [[.int .i64 8], [.int .i64 18], [.int .i64 25]], .int .i64 0, .und, .und, .und, .und, .und, .und, .und, .und, .und, .tup [.ro .g true 1 [[.int .i64 8], [.int .i64 18], [.int .i64 25]], .int .i64 0], .agg [.int .i64 3, .sl 0 4 0 3 (some 3)], .tup [.ro .g true 1 [[.int .i64 8], [.int .i64 18], [.int .i64 25]], .int .i64 0], .ro .g true 1 [[.int .i64 8], [.int .i64 18], [.int .i64 25]], .int .i64 0, .und, .und, .und, .und, .und, .und, .und, .und, .und, .und, .und, .und, .und, .und, .und, .und, .und, .und, .und, .und, .und, .und, .und, .und, .und, .und, .und, .und, .und, .und, .und, .und, .und, .und, .und, .und, .und, .und, .und, .und, .und, .und, .und, .und, .und, .und, .und, .und, .und, .und, .und, .und, .und, .und, .und, .und, .und, .und, .und, .und, .und, .und, .und, .und, .und, .und, .und, .und, .und, .und, .und, .und, .und, .und, .und, .und, .und, .und, .und, .und, .und, .und, .und], h := [some (.row 4 [[.int .i64 0, .int .i64 1, .int .i64 10, .nils], [.int .i64 1, .int .i64 2, .int .i64 5, .sl 1 2 0 1 (some 1)], [.int .i64 0, .int .i64 2, .int .i64 30, .nils]] false), some (.row 2 [[.int .i64 12, .int .i64 20]] true)] }
def ks3 : St := { tmps := [.bool false, .ro .g true 1 [[.int .i64 8], [.int .i64 18], [.int .i64 25]], .int .i64 0, .sl 4 2 0 2 none, .int .i64 25, .int .i64 0, .und, .und, .und, .und, .und, .und, .tup [.ro .g true 1 [[.int .i64 8], [.int .i64 18], [.int .i64 25]], .int .i64 0], .agg [.int .i64 3, .sl 0 4 0 3 (some 3)], .tup [.ro .g true 1 [[.int .i64 8], [.int .i64 18], [.int .i64 25]], .int .i64 0], .ro .g true 1 [[.int .i64 8], [.int .i64 18], [.int .i64 25]], .int .i64 0, .tup [.sl 4 2 0 2 none, .int .i64 25, .int .i64 0], .agg [.int .i64 3, .sl 2 4 0 3 (some 3)], .tup [.sl 4 2 0 2 none, .int .i64 25, .int .i64 0], .sl 4 2 0 2 none, .int .i64 25, .int .i64 0, .und, .und, .und, .und, .und, .und, .und, .und, .und, .und, .und, .und, .und, .und, .und, .und, .und, .und, .und, .und, .und, .und, .und, .und, .und, .und, .und, .und, .und, .und, .und, .und, .und, .und, .und, .und, .und, .und, .und, .und, .und, .und, .und, .und, .und, .und, .und, .und, .und, .und, .und, .und, .und, .und, .und, .und, .und, .und, .und, .und, .und, .und, .und, .und, .und, .und, .und, .und, .und, .und, .und, .und, .und, .und, .und, .und, .und], h := [some (.row 4 [[.int .i64 0, .int .i64 1, .int .i64 10, .nils], [.int .i64 1, .int .i64 2, .int .i64 5, .sl 1 2 0 1 (some 1)], [.int .i64 0, .int .i64 2, .int .i64 30, .nils]] false), some (.row 2 [[.int .i64 12, .int .i64 20]] true), some (.row 4 [[.int .i64 0, .int .i64 1, .int .i64 10, .nils], [.int .i64 1, .int .i64 2, .int .i64 5, .sl 3 2 0 1 (some 1)], [.int .i64 0, .int .i64 2, .int .i64 30, .nils]] false), some (.row 2 [[.int .i64 12, .int .i64 20]] true), some (.row 2 [[.int .i64 0, .int .i64 0], [.int .i64 1, .int .i64 20]] true)] }
def ks4 : St := { tmps := [.bool false, .ro .g true 1 [[.int .i64 8], [.int .i64 18], [.int .i64 25]], .int .i64 0, .sl 4 2 0 2 none, .int .i64 25, .int .i64 0, .sl 9 3 0 1 none, .int .i64 0, .und, .und, .und, .und, .tup [.ro .g true 1 [[.int .i64 8], [.int .i64 18], [.int .i64 25]], .int .i64 0], .agg [.int .i64 3, .sl 0 4 0 3 (some 3)], .tup [.ro .g true 1 [[.int .i64 8], [.int .i64 18], [.int .i64 25]], .int .i64 0], .ro .g true 1 [[.int .i64 8], [.int .i64 18], [.int .i64 25]], .int .i64 0, .tup [.sl 4 2 0 2 none, .int .i64 25, .int .i64 0], .agg [.int .i64 3, .sl 2 4 0 3 (some 3)], .tup [.sl 4 2 0 2 none, .int .i64 25, .int .i64 0], .sl 4 2 0 2 none, .int .i64 25, .int .i64 0, .tup [.sl 9 3 0 1 none, .int .i64 0], .agg [.int .i64 3, .sl 5 4 0 3 (some 3)], .agg [.int .i64 0, .int .i64 3, .int .i64 0, .int .i64 100], .sl 7 4 0 1 (some 1), .agg [.int .i64 2, .int .i64 1, .int .i64 15], .sl 8 3 0 1 (some 1), .tup [.sl 9 3 0 1 none, .int .i64 0], .sl 9 3 0 1 none, .int .i64 0, .und, .und, .und, .und, .und, .und, .und, .und, .und, .und, .und, .und, .und, .und, .und, .und, .und, .und, .und, .und, .und, .und, .und, .und, .und, .und, .und, .und, .und, .und, .und, .und, .und, .und, .und, .und, .und, .und, .und, .und, .und, .und, .und, .und, .und, .und, .und, .und, .und, .und, .und, .und, .und, .und, .und, .und, .und, .und, .und, .und, .und, .und, .und, .und, .und, .und, .und, .und], h := [some (.row 4 [[.int .i64 0, .int .i64 1, .int .i64 10, .nils], [.int .i64 1, .int .i64 2, .int .i64 5, .sl 1 2 0 1 (some 1)], [.int .i64 0, .int .i64 2, .int .i64 30, .nils]] false), some (.row 2 [[.int .i64 12, .int .i64 20]] true), some (.row 4 [[.int .i64 0, .int .i64 1, .int .i64 10, .nils], [.int .i64 1, .int .i64 2, .int .i64 5, .sl 3 2 0 1 (some 1)], [.int .i64 0, .int .i64 2, .int .i64 30, .nils]] false), some (.row 2 [[.int .i64 12, .int .i64 20]] true), some (.row 2 [[.int .i64 0, .int .i64 0], [.int .i64 1, .int .i64 20]] true), some (.row 4 [[.int .i64 0, .int .i64 1, .int .i64 10, .nils], [.int .i64 1, .int .i64 2, .int .i64 5, .sl 6 2 0 1 (some 1)], [.int .i64 0, .int .i64 2, .int .i64 30, .nils]] false), some (.row 2 [[.int .i64 12, .int .i64 20]] true), some (.row 4 [[.int .i64 0, .int .i64 3, .int .i64 0, .int .i64 100]] true), some (.row 3 [[.int .i64 2, .int .i64 1, .int .i64 15]] true), some (.row 3 [[.int .i64 0, .int .i64 0, .int .i64 10]] true)] }
def ks5 : St := { tmps := [.bool false, .ro .g true 1 [[.int .i64 8], [.int .i64 18], [.int .i64 25]], .int .i64 0, .sl 4 2 0 2 none, .int .i64 25, .int .i64 0, .sl 9 3 0 1 none, .int .i64 0, .ptr 10 15 0 0, .int .i64 0, .und, .und, .tup [.ro .g true 1 [[.int .i64 8], [.int .i64 18], [.int .i64 25]], .int .i64 0], .agg [.int .i64 3, .sl 0 4 0 3 (some 3)], .tup [.ro .g true 1 [[.int .i64 8], [.int .i64 18], [.int .i64 25]], .int .i64 0], .ro .g true 1 [[.int .i64 8], [.int .i64 18], [.int .i64 25]], .int .i64 0, .tup [.sl 4 2 0 2 none, .int .i64 25, .int .i64 0], .agg [.int .i64 3, .sl 2 4 0 3 (some 3)], .tup [.sl 4 2 0 2 none, .int .i64 25, .int .i64 0], .sl 4 2 0 2 none, .int .i64 25, .int .i64 0, .tup [.sl 9 3 0 1 none, .int .i64 0], .agg [.int .i64 3, .sl 5 4 0 3 (some 3)], .agg [.int .i64 0, .int .i64 3, .int .i64 0, .int .i64 100], .sl 7 4 0 1 (some 1), .agg [.int .i64 2, .int .i64 1, .int .i64 15], .sl 8 3 0 1 (some 1), .tup [.sl 9 3 0 1 none, .int .i64 0], .sl 9 3 0 1 none, .int .i64 0, .tup [.ptr 10 15 0 0, .int .i64 0], .agg [.int .i64 1, .int .i64 60, .int .i64 1, .int .i64 30, .int .i64 600, .int .i64 3], .tup [.ptr 10 15 0 0, .int .i64 0], .ptr 10 15 0 0, .int .i64 0, .und, .und, .und, .und, .und, .und, .und, .und, .und, .und, .und, .und, .und, .und, .und, .und, .und, .und, .und, .und, .und, .und, .und, .und, .und, .und, .und, .und, .und, .und, .und, .und, .und, .und, .und, .und, .und, .und, .und, .und, .und, .und, .und, .und, .und, .und, .und, .und, .und, .und, .und, .und, .und, .und, .und, .und, .und, .und, .und, .und, .und, .und, .und], h := [some (.row 4 [[.int .i64 0, .int .i64 1, .int .i64 10, .nils], [.int .i64 1, .int .i64 2, .int .i64 5, .sl 1 2 0 1 (some 1)], [.int .i64 0, .int .i64 2, .int .i64 30, .nils]] false), some (.row 2 [[.int .i64 12, .int .i64 20]] true), some (.row 4 [[.int .i64 0, .int .i64 1, .int .i64 10, .nils], [.int .i64 1, .int .i64 2, .int .i64 5, .sl 3 2 0 1 (some 1)], [.int .i64 0, .int .i64 2, .int .i64 30, .nils]] false), some (.row 2 [[.int .i64 12, .int .i64 20]] true), some (.row 2 [[.int .i64 0, .int .i64 0], [.int .i64 1, .int .i64 20]] true), some (.row 4 [[.int .i64 0, .int .i64 1, .int .i64 10, .nils], [.int .i64 1, .int .i64 2, .int .i64 5, .sl 6 2 0 1 (some 1)], [.int .i64 0, .int .i64 2, .int .i64 30, .nils]] false), some (.row 2 [[.int .i64 12, .int .i64 20]] true), some (.row 4 [[.int .i64 0, .int .i64 3, .int .i64 0, .int .i64 100]] true), some (.row 3 [[.int .i64 2, .int .i64 1, .int .i64 15]] true), some (.row 3 [[.int .i64 0, .int .i64 0, .int .i64 10]] true), some (.row 15 [[.int .i64 1, .int .i64 60, .int .i64 1, .int .i64 30, .int .i64 600, .int .i64 3, .bool false, .int .i64 0, .bool false, .bool false, .int .i64 0, .bool false, .sl 11 3 0 1 (some 1), .sl 12 3 0 1 (some 1), .sl 13 5 0 3 (some 3)]] false), some (.row 3 [[.bool false, .int .i64 0, .bool false]] true), some (.row 3 [[.bool false, .int .i64 0, .bool false]] true), some (.row 5 [[.bool false, .int .i64 0, .int .i64 (-1), .bool false, .bool false], [.bool false, .int .i64 0, .int .i64 (-1), .bool false, .bool false], [.bool false, .int .i64 0, .int .i64 (-1), .bool false, .bool false]] true)] }
def ks6 : St := { tmps := [.bool false, .ro .g true 1 [[.int .i64 8], [.int .i64 18], [.int .i64 25]], .int .i64 0, .sl 4 2 0 2 none, .int .i64 25, .int .i64 0, .sl 9 3 0 1 none, .int .i64 0, .ptr 10 15 0 0, .int .i64 0, .und, .und, .tup [.ro .g true 1 [[.int .i64 8], [.int .i64 18], [.int .i64 25]], .int .i64 0], .agg [.int .i64 3, .sl 0 4 0 3 (some 3)], .tup [.ro .g true 1 [[.int .i64 8], [.int .i64 18], [.int .i64 25]], .int .i64 0], .ro .g true 1 [[.int .i64 8], [.int .i64 18], [.int .i64 25]], .int .i64 0, .tup [.sl 4 2 0 2 none, .int .i64 25, .int .i64 0], .agg [.int .i64 3, .sl 2 4 0 3 (some 3)], .tup [.sl 4 2 0 2 none, .int .i64 25, .int .i64 0], .sl 4 2 0 2 none, .int .i64 25, .int .i64 0, .tup [.sl 9 3 0 1 none, .int .i64 0], .agg [.int .i64 3, .sl 5 4 0 3 (some 3)], .agg [.int .i64 0, .int .i64 3, .int .i64 0, .int .i64 100], .sl 7 4 0 1 (some 1), .agg [.int .i64 2, .int .i64 1, .int .i64 15], .sl 8 3 0 1 (some 1), .tup [.sl 9 3 0 1 none, .int .i64 0], .sl 9 3 0 1 none, .int .i64 0, .tup [.ptr 10 15 0 0, .int .i64 0], .agg [.int .i64 1, .int .i64 60, .int .i64 1, .int .i64 30, .int .i64 600, .int .i64 3], .tup [.ptr 10 15 0 0, .int .i64 0], .ptr 10 15 0 0, .int .i64 0, .int .i64 0, .bool false, .bool false, .int .i64 0, .bool false, .bool false, .bool false, .int .i64 0, .bool false, .bool false, .bool false, .int .i64 0, .bool false, .bool false, .bool false, .ptr 10 15 0 0, .bool false, .bool false, .bool false, .sl 4 2 0 2 none, .int .i64 2, .bool false, .bool false, .bool false, .sl 9 3 0 1 none, .int .i64 1, .bool false, .bool false, .und, .und, .und, .und, .und, .und, .und, .und, .und, .und, .und, .und, .und, .und, .und, .und, .und, .und, .und, .und, .und, .und, .und, .und, .und, .und, .und, .und, .und, .und, .und, .und, .und, .und, .und], h := [some (.row 4 [[.int .i64 0, .int .i64 1, .int .i64 10, .nils], [.int .i64 1, .int .i64 2, .int .i64 5, .sl 1 2 0 1 (some 1)], [.int .i64 0, .int .i64 2, .int .i64 30, .nils]] false), some (.row 2 [[.int .i64 12, .int .i64 20]] true), some (.row 4 [[.int .i64 0, .int .i64 1, .int .i64 10, .nils], [.int .i64 1, .int .i64 2, .int .i64 5, .sl 3 2 0 1 (some 1)], [.int .i64 0, .int .i64 2, .int .i64 30, .nils]] false), some (.row 2 [[.int .i64 12, .int .i64 20]] true), some (.row 2 [[.int .i64 0, .int .i64 0], [.int .i64 1, .int .i64 20]] true), some (.row 4 [[.int .i64 0, .int .i64 1, .int .i64 10, .nils], [.int .i64 1, .int .i64 2, .int .i64 5, .sl 6 2 0 1 (some 1)], [.int .i64 0, .int .i64 2, .int .i64 30, .nils]] false), some (.row 2 [[.int .i64 12, .int .i64 20]] true), some (.row 4 [[.int .i64 0, .int .i64 3, .int .i64 0, .int .i64 100]] true), some (.row 3 [[.int .i64 2, .int .i64 1, .int .i64 15]] true), some (.row 3 [[.int .i64 0, .int .i64 0, .int .i64 10]] true), some (.row 15 [[.int .i64 1, .int .i64 60, .int .i64 1, .int .i64 30, .int .i64 600, .int .i64 3, .bool false, .int .i64 0, .bool false, .bool false, .int .i64 0, .bool false, .sl 11 3 0 1 (some 1), .sl 12 3 0 1 (some 1), .sl 13 5 0 3 (some 3)]] false), some (.row 3 [[.bool false, .int .i64 0, .bool false]] true), some (.row 3 [[.bool false, .int .i64 0, .bool false]] true), some (.row 5 [[.bool false, .int .i64 0, .int .i64 (-1), .bool false, .bool false], [.bool false, .int .i64 0, .int .i64 (-1), .bool false, .bool false], [.bool false, .int .i64 0, .int .i64 (-1), .bool false, .bool false]] true)] }
def ks7 : St := { tmps := [.bool false, .ro .g true 1 [[.int .i64 8], [.int .i64 18], [.int .i64 25]], .int .i64 0, .sl 4 2 0 2 none, .int .i64 25, .int .i64 0, .sl 9 3 0 1 none, .int .i64 0, .ptr 10 15 0 0, .int .i64 0, .sl 14 1 0 3 none, .int .i64 0, .tup [.ro .g true 1 [[.int .i64 8], [.int .i64 18], [.int .i64 25]], .int .i64 0], .agg [.int .i64 3, .sl 0 4 0 3 (some 3)], .tup [.ro .g true 1 [[.int .i64 8], [.int .i64 18], [.int .i64 25]], .int .i64 0], .ro .g true 1 [[.int .i64 8], [.int .i64 18], [.int .i64 25]], .int .i64 0, .tup [.sl 4 2 0 2 none, .int .i64 25, .int .i64 0], .agg [.int .i64 3, .sl 2 4 0 3 (some 3)], .tup [.sl 4 2 0 2 none, .int .i64 25, .int .i64 0], .sl 4 2 0 2 none, .int .i64 25, .int .i64 0, .tup [.sl 9 3 0 1 none, .int .i64 0], .agg [.int .i64 3, .sl 5 4 0 3 (some 3)], .agg [.int .i64 0, .int .i64 3, .int .i64 0, .int .i64 100], .sl 7 4 0 1 (some 1), .agg [.int .i64 2, .int .i64 1, .int .i64 15], .sl 8 3 0 1 (some 1), .tup [.sl 9 3 0 1 none, .int .i64 0], .sl 9 3 0 1 none, .int .i64 0, .tup [.ptr 10 15 0 0, .int .i64 0], .agg [.int .i64 1, .int .i64 60, .int .i64 1, .int .i64 30, .int .i64 600, .int .i64 3], .tup [.ptr 10 15 0 0, .int .i64 0], .ptr 10 15 0 0, .int .i64 0, .int .i64 0, .bool false, .bool false, .int .i64 0, .bool false, .bool false, .bool false, .int .i64 0, .bool false, .bool false, .bool false, .int .i64 0, .bool false, .bool false, .bool false, .ptr 10 15 0 0, .bool false, .bool false, .bool false, .sl 4 2 0 2 none, .int .i64 2, .bool false, .bool false, .bool false, .sl 9 3 0 1 none, .int .i64 1, .bool false, .bool false, .tup [.sl 14 1 0 3 none, .int .i64 0], .ptr 10 15 0 0, .tup [.sl 14 1 0 3 none, .int .i64 0], .sl 14 1 0 3 none, .int .i64 0, .und, .und, .und, .und, .und, .und, .und, .und, .und, .und, .und, .und, .und, .und, .und, .und, .und, .und, .und, .und, .und, .und, .und, .und, .und, .und, .und, .und, .und, .und], h := [some (.row 4 [[.int .i64 0, .int .i64 1, .int .i64 10, .nils], [.int .i64 1, .int .i64 2, .int .i64 5, .sl 1 2 0 1 (some 1)], [.int .i64 0, .int .i64 2, .int .i64 30, .nils]] false), some (.row 2 [[.int .i64 12, .int .i64 20]] true), some (.row 4 [[.int .i64 0, .int .i64 1, .int .i64 10, .nils], [.int .i64 1, .int .i64 2, .int .i64 5, .sl 3 2 0 1 (some 1)], [.int .i64 0, .int .i64 2, .int .i64 30, .nils]] false), some (.row 2 [[.int .i64 12, .int .i64 20]] true), some (.row 2 [[.int .i64 0, .int .i64 0], [.int .i64 1, .int .i64 20]] true), some (.row 4 [[.int .i64 0, .int .i64 1, .int .i64 10, .nils], [.int .i64 1, .int .i64 2, .int .i64 5, .sl 6 2 0 1 (some 1)], [.int .i64 0, .int .i64 2, .int .i64 30, .nils]] false), some (.row 2 [[.int .i64 12, .int .i64 20]] true), some (.row 4 [[.int .i64 0, .int .i64 3, .int .i64 0, .int .i64 100]] true), some (.row 3 [[.int .i64 2, .int .i64 1, .int .i64 15]] true), some (.row 3 [[.int .i64 0, .int .i64 0, .int .i64 10]] true), some (.row 15 [[.int .i64 1, .int .i64 60, .int .i64 1, .int .i64 30, .int .i64 600, .int .i64 3, .bool false, .int .i64 0, .bool false, .bool false, .int .i64 0, .bool false, .sl 11 3 0 1 (some 1), .sl 12 3 0 1 (some 1), .sl 13 5 0 3 (some 3)]] false), some (.row 3 [[.bool false, .int .i64 0, .bool false]] true), some (.row 3 [[.bool false, .int .i64 0, .bool false]] true), some (.row 5 [[.bool false, .int .i64 0, .int .i64 (-1), .bool false, .bool false], [.bool false, .int .i64 0, .int .i64 (-1), .bool false, .bool false], [.bool false, .int .i64 0, .int .i64 (-1), .bool false, .bool false]] true), some (.row 1 [[.int .i64 1], [.int .i64 3], [.int .i64 4]] true)] }
def ks8 : St := { tmps := [.bool true, .ro .g true 1 [[.int .i64 8], [.int .i64 18], [.int .i64 25]], .int .i64 0, .sl 4 2 0 2 none, .int .i64 25, .int .i64 0, .sl 9 3 0 1 none, .int .i64 0, .ptr 10 15 0 0, .int .i64 0, .sl 14 1 0 3 none, .int .i64 0, .tup [.ro .g true 1 [[.int .i64 8], [.int .i64 18], [.int .i64 25]], .int .i64 0], .agg [.int .i64 3, .sl 0 4 0 3 (some 3)], .tup [.ro .g true 1 [[.int .i64 8], [.int .i64 18], [.int .i64 25]], .int .i64 0], .ro .g true 1 [[.int .i64 8], [.int .i64 18], [.int .i64 25]], .int .i64 0, .tup [.sl 4 2 0 2 none, .int .i64 25, .int .i64 0], .agg [.int .i64 3, .sl 2 4 0 3 (some 3)], .tup [.sl 4 2 0 2 none, .int .i64 25, .int .i64 0], .sl 4 2 0 2 none, .int .i64 25, .int .i64 0, .tup [.sl 9 3 0 1 none, .int .i64 0], .agg [.int .i64 3, .sl 5 4 0 3 (some 3)], .agg [.int .i64 0, .int .i64 3, .int .i64 0, .int .i64 100], .sl 7 4 0 1 (some 1), .agg [.int .i64 2, .int .i64 1, .int .i64 15], .sl 8 3 0 1 (some 1), .tup [.sl 9 3 0 1 none, .int .i64 0], .sl 9 3 0 1 none, .int .i64 0, .tup [.ptr 10 15 0 0, .int .i64 0], .agg [.int .i64 1, .int .i64 60, .int .i64 1, .int .i64 30, .int .i64 600, .int .i64 3], .tup [.ptr 10 15 0 0, .int .i64 0], .ptr 10 15 0 0, .int .i64 0, .int .i64 0, .bool false, .bool false, .int .i64 0, .bool false, .bool false, .bool false, .int .i64 0, .bool false, .bool false, .bool false, .int .i64 0, .bool false, .bool false, .bool false, .ptr 10 15 0 0, .bool false, .bool false, .bool false, .sl 4 2 0 2 none, .int .i64 2, .bool false, .bool false, .bool false, .sl 9 3 0 1 none, .int .i64 1, .bool false, .bool false, .tup [.sl 14 1 0 3 none, .int .i64 0], .ptr 10 15 0 0, .tup [.sl 14 1 0 3 none, .int .i64 0], .sl 14 1 0 3 none, .int .i64 0, .int .i64 0, .bool true, .bool true, .ro .g true 1 [[.int .i64 8], [.int .i64 18], [.int .i64 25]], .sl 15 1 0 3 (some 3), .bool true, .bool true, .bool true, .sl 4 2 0 2 none, .ptr 4 2 1 0, .agg [.int .i64 1, .int .i64 20], .agg [.int .i64 1, .int .i64 20], .bool true, .bool true, .bool true, .int .i64 25, .bool true, .bool true, .bool true, .sl 9 3 0 1 none, .ptr 9 3 0 0, .agg [.int .i64 0, .int .i64 0, .int .i64 10], .agg [.int .i64 0, .int .i64 0, .int .i64 10], .bool true, .bool true, .bool true, .sl 14 1 0 3 none, .sl 16 1 0 3 (some 3), .bool true, .bool true], h := [some (.row 4 [[.int .i64 0, .int .i64 1, .int .i64 10, .nils], [.int .i64 1, .int .i64 2, .int .i64 5, .sl 1 2 0 1 (some 1)], [.int .i64 0, .int .i64 2, .int .i64 30, .nils]] false), some (.row 2 [[.int .i64 12, .int .i64 20]] true), some (.row 4 [[.int .i64 0, .int .i64 1, .int .i64 10, .nils], [.int .i64 1, .int .i64 2, .int .i64 5, .sl 3 2 0 1 (some 1)], [.int .i64 0, .int .i64 2, .int .i64 30, .nils]] false), some (.row 2 [[.int .i64 12, .int .i64 20]] true), some (.row 2 [[.int .i64 0, .int .i64 0], [.int .i64 1, .int .i64 20]] true), some (.row 4 [[.int .i64 0, .int .i64 1, .int .i64 10, .nils], [.int .i64 1, .int .i64 2, .int .i64 5, .sl 6 2 0 1 (some 1)], [.int .i64 0, .int .i64 2, .int .i64 30, .nils]] false), some (.row 2 [[.int .i64 12, .int .i64 20]] true), some (.row 4 [[.int .i64 0, .int .i64 3, .int .i64 0, .int .i64 100]] true), some (.row 3 [[.int .i64 2, .int .i64 1, .int .i64 15]] true), some (.row 3 [[.int .i64 0, .int .i64 0, .int .i64 10]] true), some (.row 15 [[.int .i64 1, .int .i64 60, .int .i64 1, .int .i64 30, .int .i64 600, .int .i64 3, .bool false, .int .i64 0, .bool false, .bool false, .int .i64 0, .bool false, .sl 11 3 0 1 (some 1), .sl 12 3 0 1 (some 1), .sl 13 5 0 3 (some 3)]] false), some (.row 3 [[.bool false, .int .i64 0, .bool false]] true), some (.row 3 [[.bool false, .int .i64 0, .bool false]] true), some (.row 5 [[.bool false, .int .i64 0, .int .i64 (-1), .bool false, .bool false], [.bool false, .int .i64 0, .int .i64 (-1), .bool false, .bool false], [.bool false, .int .i64 0, .int .i64 (-1), .bool false, .bool false]] true), some (.row 1 [[.int .i64 1], [.int .i64 3], [.int .i64 4]] true), some (.row 1 [[.int .i64 8], [.int .i64 18], [.int .i64 25]] true), some (.row 1 [[.int .i64 1], [.int .i64 3], [.int .i64 4]] true)] }
theorem kp0 : execA C1 (callA C1 11) 16 0 (none : Option (Hd Unit)) (partC 0 kbody) ks0 () = some (.normal, ks1, ()) := by kernel_rfl
theorem kr0 : isSeq (restC 0 kbody) = true := by kernel_rfl
theorem kp1 : execA C1 (callA C1 11) 16 0 (none : Option (Hd Unit)) (partC 1 kbody) ks1 () = some (.normal, ks2, ()) := by kernel_rfl
theorem kr1 : isSeq (restC 1 kbody) = true := by kernel_rfl
theorem kp2 : execA C1 (callA C1 11) 16 0 (none : Option (Hd Unit)) (partC 2 kbody) ks2 () = some (.normal, ks3, ()) := by kernel_rfl
theorem kr2 : isSeq (restC 2 kbody) = true := by kernel_rfl
theorem kp3 : execA C1 (callA C1 11) 16 0 (none : Option (Hd Unit)) (partC 3 kbody) ks3 () = some (.normal, ks4, ()) := by kernel_rfl
theorem kr3 : isSeq (restC 3 kbody) = true := by kernel_rfl
theorem kp4 : execA C1 (callA C1 11) 16 0 (none : Option (Hd Unit)) (partC 4 kbody) ks4 () = some (.normal, ks5, ()) := by kernel_rfl
theorem kr4 : isSeq (restC 4 kbody) = true := by kernel_rfl
theorem kp5 : execA C1 (callA C1 11) 16 0 (none : Option (Hd Unit)) (partC 5 kbody) ks5 () = some (.normal, ks6, ()) := by kernel_rfl
theorem kr5 : isSeq (restC 5 kbody) = true := by kernel_rfl
theorem kp6 : execA C1 (callA C1 11) 16 0 (none : Option (Hd Unit)) (partC 6 kbody) ks6 () = some (.normal, ks7, ()) := by kernel_rfl
theorem kr6 : isSeq (restC 6 kbody) = true := by kernel_rfl
theorem kp7 : execA C1 (callA C1 11) 16 0 (none : Option (Hd Unit)) (partC 7 kbody) ks7 () = some (.normal, ks8, ()) := by kernel_rfl
theorem kr7 : isSeq (restC 7 kbody) = true := by kernel_rfl
theorem kq : lastIs C1 (callA C1 11) 16 kfn (restC 8 kbody) ks8 = true := by kernel_rfl
theorem k1 : (C1.P.funcs[16]?).isSome = true := by kernel_rfl
theorem k2 : (kfn.body.isSome && !hasDef kbody) = true := by kernel_rfl
theorem k3 : (⟨List.replicate kfn.ntmps .und, []⟩ : St) = ks0 := by kernel_rfl
theorem ke8 : EndsTrue C1 (callA C1 11) 16 kfn (restC 8 kbody) ks8 := lastIs_spec kq
theorem ke7 : EndsTrue C1 (callA C1 11) 16 kfn (restC 7 kbody) ks7 := spine_step kr7 kp7 ke8
theorem ke6 : EndsTrue C1 (callA C1 11) 16 kfn (restC 6 kbody) ks6 := spine_step kr6 kp6 ke7
theorem ke5 : EndsTrue C1 (callA C1 11) 16 kfn (restC 5 kbody) ks5 := spine_step kr5 kp5 ke6
theorem ke4 : EndsTrue C1 (callA C1 11) 16 kfn (restC 4 kbody) ks4 := spine_step kr4 kp4 ke5
theorem ke3 : EndsTrue C1 (callA C1 11) 16 kfn (restC 3 kbody) ks3 := spine_step kr3 kp3 ke4
theorem ke2 : EndsTrue C1 (callA C1 11) 16 kfn (restC 2 kbody) ks2 := spine_step kr2 kp2 ke3
theorem ke1 : EndsTrue C1 (callA C1 11) 16 kfn (restC 1 kbody) ks1 := spine_step kr1 kp1 ke2
theorem ke0 : EndsTrue C1 (callA C1 11) 16 kfn (restC 0 kbody) ks0 := spine_step kr0 kp0 ke1
theorem known1 : callA C1 12 Unit none 16 [] [] () = some (.bool true, [], ()) := spine_call k1 rfl k2 k3 ke0
end Go.Proofs.Ytgmefblkmidglaa
namespace Go.Proofs.Ytgmefblkmidglaa
open Go.Lite
def kTrue : List Row := [⟨16, [], .bool true⟩]
noncomputable def C : Cfg := { C0 with frz := fun _ => false, ext := extT kTrue, wr := fun f => match f with
  | 40 => [true, false, false]
  | f => C0.wr f }
theorem callsOk (n : Nat) : CallOK C.P (callA C n) := by
  refine calls_ok (C := C) ?_ ?_ mixed ?_ ?_ n
  · intro t T h
    dsimp only [C, C0] at h ⊢
    exact h
  · exact ext_ok (C0 := C1) rfl rfl (callsOk1 12) ⟨known1, trivial⟩
  · intro f fn h hb
    obtain ⟨c, hc⟩ := Option.isSome_iff_exists.1 hb
    exact (fn_ok h hc).1
  · exact fun f fn c h hb => (fn_ok h hb).2
end Go.Proofs.Ytgmefblkmidglaa
namespace Go.Proofs.Ytgmefblkmidglaa
open Go.Lite
set_option maxRecDepth 100000
theorem hC : ∀ t Y, C.ty t = some Y → tyOf C.P t = some Y := by
  intro t Y h
  dsimp only [C, C0] at h ⊢
  exact h
theorem fuelC : C.fuel = 18446744073709551616 := by kernel_rfl
theorem big_eq : big = 4611686018427387904 := rfl
theorem within_dec {x a b : Int} : Lite.within x a b = decide (a ≤ x ∧ x ≤ b) := by simp [Lite.within]
section
variable {α : Type} {p : Nat → Bool} {i len : Nat} {rt rf r : α}
theorem all_step (h : (T.ite (allFrom p i (len - i)) (.leaf rt) (.leaf rf)).run = some r) (hlt : i < len) : (p i = false → some rf = some r) ∧ (p i = true → (T.ite (allFrom p (i + 1) (len - (i + 1))) (.leaf rt) (.leaf rf)).run = some r) := by
  rw [show len - i = (len - (i + 1)) + 1 by omega] at h
  simp only [allFrom] at h
  refine ⟨fun hp => ?_, fun hp => ?_⟩
  · rw [hp, Bool.false_and] at h; exact h
  · rw [hp, Bool.true_and] at h; exact h
theorem all_end (h : (T.ite (allFrom p i (len - i)) (.leaf rt) (.leaf rf)).run = some r) (hge : ¬ i < len) : some rt = some r := by
  rw [show len - i = 0 by omega] at h
  exact h
end
section
variable {p : Nat → Bool} {i len : Nat} {ro r : Ex × List D}
theorem first_step (h : (T.ite (decide (firstFrom p i (len - i) ≥ 0)) (.leaf (.ret, [.i (firstFrom p i (len - i))])) (.leaf ro)).run = some r) (hlt : i < len) :
    (p i = true → some (Ex.ret, [D.i (i : Int)]) = some r) ∧ (p i = false → (T.ite (decide (firstFrom p (i + 1) (len - (i + 1)) ≥ 0)) (.leaf (.ret, [.i (firstFrom p (i + 1) (len - (i + 1)))])) (.leaf ro)).run = some r) := by
  rw [show len - i = (len - (i + 1)) + 1 by omega] at h
  simp only [firstFrom] at h
  refine ⟨fun hp => ?_, fun hp => ?_⟩
  · simp only [hp, if_true, run_ite, run_leaf] at h
    rw [if_pos (by simp)] at h
    exact h
  · simp only [hp, Bool.false_eq_true, if_false] at h
    exact h
theorem first_end (h : (T.ite (decide (firstFrom p i (len - i) ≥ 0)) (.leaf (.ret, [.i (firstFrom p i (len - i))])) (.leaf ro)).run = some r) (hge : ¬ i < len) : some ro = some r := by
  rw [show len - i = 0 by omega] at h
  simp only [firstFrom, run_ite, run_leaf] at h
  rw [if_neg (by simp)] at h
  exact h
end
noncomputable section
def rg (R : List (List D)) (j : Nat) : Int := ix (R.getD j []) 0
def rs (R : List (List D)) (j : Nat) (v : Int) : List (List D) := R.set j [.i v]
end
end Go.Proofs.Ytgmefblkmidglaa
namespace Go.Proofs.Ytgmefblkmidglaa
open Go.Lite
def s45 : Sig := ⟨[.k (.int .i64), .k (.int .i64), .k (.int .i64)], [(.k .bool, [])]⟩
def s47 : Sig := ⟨[.k (.int .i64), .k (.int .i64), .k (.int .i64)], [(.k .bool, [])]⟩
def s61 : Sig := ⟨[.eptr [.k (.int .i64), .k (.int .i64), .k (.int .i64), .k (.int .i64), .k (.int .i64), .k (.int .i64), .k .bool, .k (.int .i64), .k .bool, .k .bool, .k (.int .i64), .k .bool, .k (.ro [.bool, .int .i64, .bool]), .k (.ro [.bool, .int .i64, .bool]), .k (.ro [.bool, .int .i64, .int .i64, .bool, .bool])]], [(.k .bool, [])]⟩
def s62 : Sig := ⟨[.eptr [.k (.int .i64), .k (.int .i64), .k (.int .i64), .k (.int .i64), .k (.int .i64), .k (.int .i64), .k .bool, .k (.int .i64), .k .bool, .k .bool, .k (.int .i64), .k .bool, .k (.ro [.bool, .int .i64, .bool]), .k (.ro [.bool, .int .i64, .bool]), .k (.ro [.bool, .int .i64, .int .i64, .bool, .bool])], .agg [.k (.int .i64), .k (.int .i64), .k (.int .i64), .k (.int .i64)]], [(.k .bool, [])]⟩
def s85 : Sig := ⟨[.agg [.k .bool, .k (.int .i64), .k .bool]], [(.k .bool, [])]⟩
def s86 : Sig := ⟨[.agg [.k .bool, .k (.int .i64), .k .bool], .eptr [.k (.int .i64)], .eptr [.eptr [.k (.int .i64), .k (.int .i64), .k (.int .i64), .k (.int .i64), .k (.int .i64), .k (.int .i64), .k .bool, .k (.int .i64), .k .bool, .k .bool, .k (.int .i64), .k .bool, .k (.ro [.bool, .int .i64, .bool]), .k (.ro [.bool, .int .i64, .bool]), .k (.ro [.bool, .int .i64, .int .i64, .bool, .bool])]]], [(.k .bool, [])]⟩
def s88 : Sig := ⟨[.agg [.k .bool, .k (.int .i64), .k (.int .i64), .k .bool, .k .bool], .eptr [.eptr [.k (.int .i64), .k (.int .i64), .k (.int .i64), .k (.int .i64), .k (.int .i64), .k (.int .i64), .k .bool, .k (.int .i64), .k .bool, .k .bool, .k (.int .i64), .k .bool, .k (.ro [.bool, .int .i64, .bool]), .k (.ro [.bool, .int .i64, .bool]), .k (.ro [.bool, .int .i64, .int .i64, .bool, .bool])]]], [(.k .bool, [])]⟩
def s89 : Sig := ⟨[.agg [.k .bool, .k (.int .i64), .k (.int .i64), .k .bool, .k .bool], .eptr [.eptr [.k (.int .i64), .k (.int .i64), .k (.int .i64), .k (.int .i64), .k (.int .i64), .k (.int .i64), .k .bool, .k (.int .i64), .k .bool, .k .bool, .k (.int .i64), .k .bool, .k (.ro [.bool, .int .i64, .bool]), .k (.ro [.bool, .int .i64, .bool]), .k (.ro [.bool, .int .i64, .int .i64, .bool, .bool])]], .eptr [.k (.int .i64)]], [(.k .bool, [])]⟩
def s90 : Sig := ⟨[.agg [.k .bool, .k (.int .i64), .k (.int .i64), .k .bool, .k .bool], .eptr [.k (.int .i64)], .eptr [.eptr [.k (.int .i64), .k (.int .i64), .k (.int .i64), .k (.int .i64), .k (.int .i64), .k (.int .i64), .k .bool, .k (.int .i64), .k .bool, .k .bool, .k (.int .i64), .k .bool, .k (.ro [.bool, .int .i64, .bool]), .k (.ro [.bool, .int .i64, .bool]), .k (.ro [.bool, .int .i64, .int .i64, .bool, .bool])]]], [(.k .bool, [])]⟩
def s92 : Sig := ⟨[.agg [.k .bool, .k (.int .i64), .k (.int .i64), .k .bool, .k .bool]], [(.k .bool, [])]⟩
def s1098 : Sig := ⟨[.k (.ro [.bool, .int .i64, .bool]), .fn 85 [] []], [(.k (.int .i64), [])]⟩
def l1098_2 : LSig := mkLS [0, 1, 7, 8] [(19, [(0, .k (.ro [.bool, .int .i64, .bool])), (1, .fn 85 [] []), (7, .k (.int .i64)), (8, .k (.int .i64))], [])] [(.ret, [4], [(19, [(4, .k (.int .i64))], [])]), (.exit 0, [], [(19, [], [])])]
def s2098 : Sig := ⟨[.k (.ro [.bool, .int .i64, .bool]), .fn 86 [] [.eptr [.k (.int .i64)], .eptr [.eptr [.k (.int .i64), .k (.int .i64), .k (.int .i64), .k (.int .i64), .k (.int .i64), .k (.int .i64), .k .bool, .k (.int .i64), .k .bool, .k .bool, .k (.int .i64), .k .bool, .k (.ro [.bool, .int .i64, .bool]), .k (.ro [.bool, .int .i64, .bool]), .k (.ro [.bool, .int .i64, .int .i64, .bool, .bool])]]]], [(.k (.int .i64), [])]⟩
def l2098_2 : LSig := mkLS [0, 1, 7, 8] [(19, [(0, .k (.ro [.bool, .int .i64, .bool])), (1, .fn 86 [] [.eptr [.k (.int .i64)], .eptr [.eptr [.k (.int .i64), .k (.int .i64), .k (.int .i64), .k (.int .i64), .k (.int .i64), .k (.int .i64), .k .bool, .k (.int .i64), .k .bool, .k .bool, .k (.int .i64), .k .bool, .k (.ro [.bool, .int .i64, .bool]), .k (.ro [.bool, .int .i64, .bool]), .k (.ro [.bool, .int .i64, .int .i64, .bool, .bool])]]]), (7, .k (.int .i64)), (8, .k (.int .i64))], [])] [(.ret, [4], [(19, [(4, .k (.int .i64))], [])]), (.exit 0, [], [(19, [], [])])]
def s1084 : Sig := ⟨[.k (.ro [.bool, .int .i64, .bool]), .fn 85 [] []], [(.k .bool, [])]⟩
def s2084 : Sig := ⟨[.k (.ro [.bool, .int .i64, .bool]), .fn 86 [] [.eptr [.k (.int .i64)], .eptr [.eptr [.k (.int .i64), .k (.int .i64), .k (.int .i64), .k (.int .i64), .k (.int .i64), .k (.int .i64), .k .bool, .k (.int .i64), .k .bool, .k .bool, .k (.int .i64), .k .bool, .k (.ro [.bool, .int .i64, .bool]), .k (.ro [.bool, .int .i64, .bool]), .k (.ro [.bool, .int .i64, .int .i64, .bool, .bool])]]]], [(.k .bool, [])]⟩
def s1099 : Sig := ⟨[.agg [.k .bool, .k (.int .i64), .k (.int .i64), .k .bool, .k .bool], .eptr [.fn 88 [] [.eptr [.eptr [.k (.int .i64), .k (.int .i64), .k (.int .i64), .k (.int .i64), .k (.int .i64), .k (.int .i64), .k .bool, .k (.int .i64), .k .bool, .k .bool, .k (.int .i64), .k .bool, .k (.ro [.bool, .int .i64, .bool]), .k (.ro [.bool, .int .i64, .bool]), .k (.ro [.bool, .int .i64, .int .i64, .bool, .bool])]]]]], [(.k .bool, [])]⟩
def s2099 : Sig := ⟨[.agg [.k .bool, .k (.int .i64), .k (.int .i64), .k .bool, .k .bool], .eptr [.fn 89 [] [.eptr [.eptr [.k (.int .i64), .k (.int .i64), .k (.int .i64), .k (.int .i64), .k (.int .i64), .k (.int .i64), .k .bool, .k (.int .i64), .k .bool, .k .bool, .k (.int .i64), .k .bool, .k (.ro [.bool, .int .i64, .bool]), .k (.ro [.bool, .int .i64, .bool]), .k (.ro [.bool, .int .i64, .int .i64, .bool, .bool])]], .eptr [.k (.int .i64)]]]], [(.k .bool, [])]⟩
def s3099 : Sig := ⟨[.agg [.k .bool, .k (.int .i64), .k (.int .i64), .k .bool, .k .bool], .eptr [.fn 90 [] [.eptr [.k (.int .i64)], .eptr [.eptr [.k (.int .i64), .k (.int .i64), .k (.int .i64), .k (.int .i64), .k (.int .i64), .k (.int .i64), .k .bool, .k (.int .i64), .k .bool, .k .bool, .k (.int .i64), .k .bool, .k (.ro [.bool, .int .i64, .bool]), .k (.ro [.bool, .int .i64, .bool]), .k (.ro [.bool, .int .i64, .int .i64, .bool, .bool])]]]]], [(.k .bool, [])]⟩
def s1100 : Sig := ⟨[.k (.ro [.bool, .int .i64, .int .i64, .bool, .bool]), .fn 92 [] []], [(.k (.int .i64), [])]⟩
def l1100_2 : LSig := mkLS [0, 1, 7, 8] [(19, [(0, .k (.ro [.bool, .int .i64, .int .i64, .bool, .bool])), (1, .fn 92 [] []), (7, .k (.int .i64)), (8, .k (.int .i64))], [])] [(.ret, [4], [(19, [(4, .k (.int .i64))], [])]), (.exit 0, [], [(19, [], [])])]
def s2100 : Sig := ⟨[.k (.ro [.bool, .int .i64, .int .i64, .bool, .bool]), .fn 99 [] [.eptr [.fn 88 [] [.eptr [.eptr [.k (.int .i64), .k (.int .i64), .k (.int .i64), .k (.int .i64), .k (.int .i64), .k (.int .i64), .k .bool, .k (.int .i64), .k .bool, .k .bool, .k (.int .i64), .k .bool, .k (.ro [.bool, .int .i64, .bool]), .k (.ro [.bool, .int .i64, .bool]), .k (.ro [.bool, .int .i64, .int .i64, .bool, .bool])]]]]]], [(.k (.int .i64), [])]⟩
def l2100_2 : LSig := mkLS [0, 1, 7, 8] [(19, [(0, .k (.ro [.bool, .int .i64, .int .i64, .bool, .bool])), (1, .fn 99 [] [.eptr [.fn 88 [] [.eptr [.eptr [.k (.int .i64), .k (.int .i64), .k (.int .i64), .k (.int .i64), .k (.int .i64), .k (.int .i64), .k .bool, .k (.int .i64), .k .bool, .k .bool, .k (.int .i64), .k .bool, .k (.ro [.bool, .int .i64, .bool]), .k (.ro [.bool, .int .i64, .bool]), .k (.ro [.bool, .int .i64, .int .i64, .bool, .bool])]]]]]), (7, .k (.int .i64)), (8, .k (.int .i64))], [])] [(.ret, [4], [(19, [(4, .k (.int .i64))], [])]), (.exit 0, [], [(19, [], [])])]
def s3100 : Sig := ⟨[.k (.ro [.bool, .int .i64, .int .i64, .bool, .bool]), .fn 99 [] [.eptr [.fn 89 [] [.eptr [.eptr [.k (.int .i64), .k (.int .i64), .k (.int .i64), .k (.int .i64), .k (.int .i64), .k (.int .i64), .k .bool, .k (.int .i64), .k .bool, .k .bool, .k (.int .i64), .k .bool, .k (.ro [.bool, .int .i64, .bool]), .k (.ro [.bool, .int .i64, .bool]), .k (.ro [.bool, .int .i64, .int .i64, .bool, .bool])]], .eptr [.k (.int .i64)]]]]], [(.k (.int .i64), [])]⟩
def l3100_2 : LSig := mkLS [0, 1, 7, 8] [(19, [(0, .k (.ro [.bool, .int .i64, .int .i64, .bool, .bool])), (1, .fn 99 [] [.eptr [.fn 89 [] [.eptr [.eptr [.k (.int .i64), .k (.int .i64), .k (.int .i64), .k (.int .i64), .k (.int .i64), .k (.int .i64), .k .bool, .k (.int .i64), .k .bool, .k .bool, .k (.int .i64), .k .bool, .k (.ro [.bool, .int .i64, .bool]), .k (.ro [.bool, .int .i64, .bool]), .k (.ro [.bool, .int .i64, .int .i64, .bool, .bool])]], .eptr [.k (.int .i64)]]]]), (7, .k (.int .i64)), (8, .k (.int .i64))], [])] [(.ret, [4], [(19, [(4, .k (.int .i64))], [])]), (.exit 0, [], [(19, [], [])])]
def s4100 : Sig := ⟨[.k (.ro [.bool, .int .i64, .int .i64, .bool, .bool]), .fn 99 [] [.eptr [.fn 90 [] [.eptr [.k (.int .i64)], .eptr [.eptr [.k (.int .i64), .k (.int .i64), .k (.int .i64), .k (.int .i64), .k (.int .i64), .k (.int .i64), .k .bool, .k (.int .i64), .k .bool, .k .bool, .k (.int .i64), .k .bool, .k (.ro [.bool, .int .i64, .bool]), .k (.ro [.bool, .int .i64, .bool]), .k (.ro [.bool, .int .i64, .int .i64, .bool, .bool])]]]]]], [(.k (.int .i64), [])]⟩
def l4100_2 : LSig := mkLS [0, 1, 7, 8] [(19, [(0, .k (.ro [.bool, .int .i64, .int .i64, .bool, .bool])), (1, .fn 99 [] [.eptr [.fn 90 [] [.eptr [.k (.int .i64)], .eptr [.eptr [.k (.int .i64), .k (.int .i64), .k (.int .i64), .k (.int .i64), .k (.int .i64), .k (.int .i64), .k .bool, .k (.int .i64), .k .bool, .k .bool, .k (.int .i64), .k .bool, .k (.ro [.bool, .int .i64, .bool]), .k (.ro [.bool, .int .i64, .bool]), .k (.ro [.bool, .int .i64, .int .i64, .bool, .bool])]]]]]), (7, .k (.int .i64)), (8, .k (.int .i64))], [])] [(.ret, [4], [(19, [(4, .k (.int .i64))], [])]), (.exit 0, [], [(19, [], [])])]
def s1091 : Sig := ⟨[.k (.ro [.bool, .int .i64, .int .i64, .bool, .bool]), .fn 92 [] []], [(.k .bool, [])]⟩
def s2091 : Sig := ⟨[.k (.ro [.bool, .int .i64, .int .i64, .bool, .bool]), .fn 99 [] [.eptr [.fn 88 [] [.eptr [.eptr [.k (.int .i64), .k (.int .i64), .k (.int .i64), .k (.int .i64), .k (.int .i64), .k (.int .i64), .k .bool, .k (.int .i64), .k .bool, .k .bool, .k (.int .i64), .k .bool, .k (.ro [.bool, .int .i64, .bool]), .k (.ro [.bool, .int .i64, .bool]), .k (.ro [.bool, .int .i64, .int .i64, .bool, .bool])]]]]]], [(.k .bool, [])]⟩
def s3091 : Sig := ⟨[.k (.ro [.bool, .int .i64, .int .i64, .bool, .bool]), .fn 99 [] [.eptr [.fn 89 [] [.eptr [.eptr [.k (.int .i64), .k (.int .i64), .k (.int .i64), .k (.int .i64), .k (.int .i64), .k (.int .i64), .k .bool, .k (.int .i64), .k .bool, .k .bool, .k (.int .i64), .k .bool, .k (.ro [.bool, .int .i64, .bool]), .k (.ro [.bool, .int .i64, .bool]), .k (.ro [.bool, .int .i64, .int .i64, .bool, .bool])]], .eptr [.k (.int .i64)]]]]], [(.k .bool, [])]⟩
def s4091 : Sig := ⟨[.k (.ro [.bool, .int .i64, .int .i64, .bool, .bool]), .fn 99 [] [.eptr [.fn 90 [] [.eptr [.k (.int .i64)], .eptr [.eptr [.k (.int .i64), .k (.int .i64), .k (.int .i64), .k (.int .i64), .k (.int .i64), .k (.int .i64), .k .bool, .k (.int .i64), .k .bool, .k .bool, .k (.int .i64), .k .bool, .k (.ro [.bool, .int .i64, .bool]), .k (.ro [.bool, .int .i64, .bool]), .k (.ro [.bool, .int .i64, .int .i64, .bool, .bool])]]]]]], [(.k .bool, [])]⟩
def s1087 : Sig := ⟨[.eptr [.k (.int .i64), .k (.int .i64), .k (.int .i64), .k (.int .i64), .k (.int .i64), .k (.int .i64), .k .bool, .k (.int .i64), .k .bool, .k .bool, .k (.int .i64), .k .bool, .k (.ro [.bool, .int .i64, .bool]), .k (.ro [.bool, .int .i64, .bool]), .k (.ro [.bool, .int .i64, .int .i64, .bool, .bool])], .fn 88 [] [.eptr [.eptr [.k (.int .i64), .k (.int .i64), .k (.int .i64), .k (.int .i64), .k (.int .i64), .k (.int .i64), .k .bool, .k (.int .i64), .k .bool, .k .bool, .k (.int .i64), .k .bool, .k (.ro [.bool, .int .i64, .bool]), .k (.ro [.bool, .int .i64, .bool]), .k (.ro [.bool, .int .i64, .int .i64, .bool, .bool])]]]], [(.k .bool, [])]⟩
def s2087 : Sig := ⟨[.eptr [.k (.int .i64), .k (.int .i64), .k (.int .i64), .k (.int .i64), .k (.int .i64), .k (.int .i64), .k .bool, .k (.int .i64), .k .bool, .k .bool, .k (.int .i64), .k .bool, .k (.ro [.bool, .int .i64, .bool]), .k (.ro [.bool, .int .i64, .bool]), .k (.ro [.bool, .int .i64, .int .i64, .bool, .bool])], .fn 89 [] [.eptr [.eptr [.k (.int .i64), .k (.int .i64), .k (.int .i64), .k (.int .i64), .k (.int .i64), .k (.int .i64), .k .bool, .k (.int .i64), .k .bool, .k .bool, .k (.int .i64), .k .bool, .k (.ro [.bool, .int .i64, .bool]), .k (.ro [.bool, .int .i64, .bool]), .k (.ro [.bool, .int .i64, .int .i64, .bool, .bool])]], .eptr [.k (.int .i64)]]], [(.k .bool, [])]⟩
def s3087 : Sig := ⟨[.eptr [.k (.int .i64), .k (.int .i64), .k (.int .i64), .k (.int .i64), .k (.int .i64), .k (.int .i64), .k .bool, .k (.int .i64), .k .bool, .k .bool, .k (.int .i64), .k .bool, .k (.ro [.bool, .int .i64, .bool]), .k (.ro [.bool, .int .i64, .bool]), .k (.ro [.bool, .int .i64, .int .i64, .bool, .bool])], .fn 90 [] [.eptr [.k (.int .i64)], .eptr [.eptr [.k (.int .i64), .k (.int .i64), .k (.int .i64), .k (.int .i64), .k (.int .i64), .k (.int .i64), .k .bool, .k (.int .i64), .k .bool, .k .bool, .k (.int .i64), .k .bool, .k (.ro [.bool, .int .i64, .bool]), .k (.ro [.bool, .int .i64, .bool]), .k (.ro [.bool, .int .i64, .int .i64, .bool, .bool])]]]], [(.k .bool, [])]⟩
def s65 : Sig := ⟨[.eptr [.k (.int .i64), .k (.int .i64), .k (.int .i64), .k (.int .i64), .k (.int .i64), .k (.int .i64), .k .bool, .k (.int .i64), .k .bool, .k .bool, .k (.int .i64), .k .bool, .k (.ro [.bool, .int .i64, .bool]), .k (.ro [.bool, .int .i64, .bool]), .k (.ro [.bool, .int .i64, .int .i64, .bool, .bool])], .k (.int .i64), .k (.int .i64)], [(.k .bool, [])]⟩
def s66 : Sig := ⟨[.eptr [.k (.int .i64), .k (.int .i64), .k (.int .i64), .k (.int .i64), .k (.int .i64), .k (.int .i64), .k .bool, .k (.int .i64), .k .bool, .k .bool, .k (.int .i64), .k .bool, .k (.ro [.bool, .int .i64, .bool]), .k (.ro [.bool, .int .i64, .bool]), .k (.ro [.bool, .int .i64, .int .i64, .bool, .bool])], .k (.int .i64), .k (.int .i64)], [(.k .bool, [])]⟩
def s67 : Sig := ⟨[.eptr [.k (.int .i64), .k (.int .i64), .k (.int .i64), .k (.int .i64), .k (.int .i64), .k (.int .i64), .k .bool, .k (.int .i64), .k .bool, .k .bool, .k (.int .i64), .k .bool, .k (.ro [.bool, .int .i64, .bool]), .k (.ro [.bool, .int .i64, .bool]), .k (.ro [.bool, .int .i64, .int .i64, .bool, .bool])], .k (.int .i64), .k (.int .i64)], [(.k .bool, [])]⟩
def s68 : Sig := ⟨[.eptr [.k (.int .i64), .k (.int .i64), .k (.int .i64), .k (.int .i64), .k (.int .i64), .k (.int .i64), .k .bool, .k (.int .i64), .k .bool, .k .bool, .k (.int .i64), .k .bool, .k (.ro [.bool, .int .i64, .bool]), .k (.ro [.bool, .int .i64, .bool]), .k (.ro [.bool, .int .i64, .int .i64, .bool, .bool])], .k (.int .i64), .k (.int .i64)], [(.k .bool, [])]⟩
def s69 : Sig := ⟨[.eptr [.k (.int .i64), .k (.int .i64), .k (.int .i64), .k (.int .i64), .k (.int .i64), .k (.int .i64), .k .bool, .k (.int .i64), .k .bool, .k .bool, .k (.int .i64), .k .bool, .k (.ro [.bool, .int .i64, .bool]), .k (.ro [.bool, .int .i64, .bool]), .k (.ro [.bool, .int .i64, .int .i64, .bool, .bool])], .k (.int .i64), .k (.int .i64)], [(.k .bool, [])]⟩
def s70 : Sig := ⟨[.eptr [.k (.int .i64), .k (.int .i64), .k (.int .i64), .k (.int .i64), .k (.int .i64), .k (.int .i64), .k .bool, .k (.int .i64), .k .bool, .k .bool, .k (.int .i64), .k .bool, .k (.ro [.bool, .int .i64, .bool]), .k (.ro [.bool, .int .i64, .bool]), .k (.ro [.bool, .int .i64, .int .i64, .bool, .bool])], .k (.int .i64), .k (.int .i64)], [(.k .bool, [])]⟩
def s71 : Sig := ⟨[.eptr [.k (.int .i64), .k (.int .i64), .k (.int .i64), .k (.int .i64), .k (.int .i64), .k (.int .i64), .k .bool, .k (.int .i64), .k .bool, .k .bool, .k (.int .i64), .k .bool, .k (.ro [.bool, .int .i64, .bool]), .k (.ro [.bool, .int .i64, .bool]), .k (.ro [.bool, .int .i64, .int .i64, .bool, .bool])], .k (.int .i64), .k (.int .i64)], [(.k .bool, [])]⟩
def s72 : Sig := ⟨[.eptr [.k (.int .i64), .k (.int .i64), .k (.int .i64), .k (.int .i64), .k (.int .i64), .k (.int .i64), .k .bool, .k (.int .i64), .k .bool, .k .bool, .k (.int .i64), .k .bool, .k (.ro [.bool, .int .i64, .bool]), .k (.ro [.bool, .int .i64, .bool]), .k (.ro [.bool, .int .i64, .int .i64, .bool, .bool])], .k (.int .i64), .k (.int .i64)], [(.k .bool, [])]⟩
end Go.Proofs.Ytgmefblkmidglaa
namespace Go.Proofs.Ytgmefblkmidglaa
open Go.Lite
def s1064 : SigW := ⟨[.ptr 0 15 0 6, .k .bool, .k (.int .i64), .k .bool], [.box [.k (.int .i64), .k (.int .i64), .k (.int .i64), .k (.int .i64), .k (.int .i64), .k (.int .i64), .k .bool, .k (.int .i64), .k .bool, .k .bool, .k (.int .i64), .k .bool, .sl 1 3, .sl 2 3, .sl 3 5], .row [.bool, .int .i64, .bool], .row [.bool, .int .i64, .bool], .row [.bool, .int .i64, .int .i64, .bool, .bool]], [(.tup [], [.box [.k (.int .i64), .k (.int .i64), .k (.int .i64), .k (.int .i64), .k (.int .i64), .k (.int .i64), .k .bool, .k (.int .i64), .k .bool, .k .bool, .k (.int .i64), .k .bool, .sl 1 3, .sl 2 3, .sl 3 5], .row [.bool, .int .i64, .bool], .row [.bool, .int .i64, .bool], .row [.bool, .int .i64, .int .i64, .bool, .bool]])]⟩
def s2064 : SigW := ⟨[.ptr 0 15 0 9, .k .bool, .k (.int .i64), .k .bool], [.box [.k (.int .i64), .k (.int .i64), .k (.int .i64), .k (.int .i64), .k (.int .i64), .k (.int .i64), .k .bool, .k (.int .i64), .k .bool, .k .bool, .k (.int .i64), .k .bool, .sl 1 3, .sl 2 3, .sl 3 5], .row [.bool, .int .i64, .bool], .row [.bool, .int .i64, .bool], .row [.bool, .int .i64, .int .i64, .bool, .bool]], [(.tup [], [.box [.k (.int .i64), .k (.int .i64), .k (.int .i64), .k (.int .i64), .k (.int .i64), .k (.int .i64), .k .bool, .k (.int .i64), .k .bool, .k .bool, .k (.int .i64), .k .bool, .sl 1 3, .sl 2 3, .sl 3 5], .row [.bool, .int .i64, .bool], .row [.bool, .int .i64, .bool], .row [.bool, .int .i64, .int .i64, .bool, .bool]])]⟩
def s3064 : SigW := ⟨[.pel 0 3 0, .k .bool, .k (.int .i64), .k .bool], [.row [.bool, .int .i64, .bool]], [(.tup [], [.row [.bool, .int .i64, .bool]])]⟩
def s63 : SigW := ⟨[.ptr 0 1 0 0, .ptr 1 4 0 0], [.box [.ptr 2 15 0 0], .box [.k (.int .i64), .k (.int .i64), .k (.int .i64), .k (.int .i64)], .box [.k (.int .i64), .k (.int .i64), .k (.int .i64), .k (.int .i64), .k (.int .i64), .k (.int .i64), .k .bool, .k (.int .i64), .k .bool, .k .bool, .k (.int .i64), .k .bool, .sl 3 3, .sl 4 3, .sl 5 5], .row [.bool, .int .i64, .bool], .row [.bool, .int .i64, .bool], .row [.bool, .int .i64, .int .i64, .bool, .bool]], [(.tup [], [.box [.ptr 2 15 0 0], .box [.k (.int .i64), .k (.int .i64), .k (.int .i64), .k (.int .i64)], .box [.k (.int .i64), .k (.int .i64), .k (.int .i64), .k (.int .i64), .k (.int .i64), .k (.int .i64), .k .bool, .k (.int .i64), .k .bool, .k .bool, .k (.int .i64), .k .bool, .sl 3 3, .sl 4 3, .sl 5 5], .row [.bool, .int .i64, .bool], .row [.bool, .int .i64, .bool], .row [.bool, .int .i64, .int .i64, .bool, .bool]])]⟩
def s38 : SigW := ⟨[.ptr 0 15 0 0, .agg [.k (.int .i64), .k (.int .i64), .k (.int .i64), .k (.int .i64)]], [.box [.k (.int .i64), .k (.int .i64), .k (.int .i64), .k (.int .i64), .k (.int .i64), .k (.int .i64), .k .bool, .k (.int .i64), .k .bool, .k .bool, .k (.int .i64), .k .bool, .sl 1 3, .sl 2 3, .sl 3 5], .row [.bool, .int .i64, .bool], .row [.bool, .int .i64, .bool], .row [.bool, .int .i64, .int .i64, .bool, .bool]], [(.k (.int .i64), [.box [.k (.int .i64), .k (.int .i64), .k (.int .i64), .k (.int .i64), .k (.int .i64), .k (.int .i64), .k .bool, .k (.int .i64), .k .bool, .k .bool, .k (.int .i64), .k .bool, .sl 1 3, .sl 2 3, .sl 3 5], .row [.bool, .int .i64, .bool], .row [.bool, .int .i64, .bool], .row [.bool, .int .i64, .int .i64, .bool, .bool]])]⟩
def s40 : SigW := ⟨[.ptr 0 15 0 0, .k (.int .i64), .k (.int .i64)], [.box [.k (.int .i64), .k (.int .i64), .k (.int .i64), .k (.int .i64), .k (.int .i64), .k (.int .i64), .k .bool, .k (.int .i64), .k .bool, .k .bool, .k (.int .i64), .k .bool, .sl 1 3, .sl 2 3, .sl 3 5], .row [.bool, .int .i64, .bool], .row [.bool, .int .i64, .bool], .row [.bool, .int .i64, .int .i64, .bool, .bool]], [(.tup [.nils, .k (.int .i64)], [.box [.k (.int .i64), .k (.int .i64), .k (.int .i64), .k (.int .i64), .k (.int .i64), .k (.int .i64), .k .bool, .k (.int .i64), .k .bool, .k .bool, .k (.int .i64), .k .bool, .sl 1 3, .sl 2 3, .sl 3 5], .row [.bool, .int .i64, .bool], .row [.bool, .int .i64, .bool], .row [.bool, .int .i64, .int .i64, .bool, .bool]]), (.tup [.sl 4 1, .k (.int .i64)], [.box [.k (.int .i64), .k (.int .i64), .k (.int .i64), .k (.int .i64), .k (.int .i64), .k (.int .i64), .k .bool, .k (.int .i64), .k .bool, .k .bool, .k (.int .i64), .k .bool, .sl 1 3, .sl 2 3, .sl 3 5], .row [.bool, .int .i64, .bool], .row [.bool, .int .i64, .bool], .row [.bool, .int .i64, .int .i64, .bool, .bool], .row [.int .i64]])]⟩
def l40_8 : LSig := mkLS [1, 2, 8, 46, 47, 48] [(64, [(1, .k (.int .i64)), (2, .k (.int .i64)), (8, .nils), (46, .sl 4 1), (47, .k (.int .i64)), (48, .k (.int .i64))], [.box [.k (.int .i64), .k (.int .i64), .k (.int .i64), .k (.int .i64), .k (.int .i64), .k (.int .i64), .k .bool, .k (.int .i64), .k .bool, .k .bool, .k (.int .i64), .k .bool, .sl 1 3, .sl 2 3, .sl 3 5], .row [.bool, .int .i64, .bool], .row [.bool, .int .i64, .bool], .row [.bool, .int .i64, .int .i64, .bool, .bool], .lst 1 [[.fn 65 [.ptr 0 15 0 0] []], [.fn 66 [.ptr 0 15 0 0] []], [.fn 67 [.ptr 0 15 0 0] []], [.fn 68 [.ptr 0 15 0 0] []], [.fn 69 [.ptr 0 15 0 0] []], [.fn 70 [.ptr 0 15 0 0] []], [.fn 71 [.ptr 0 15 0 0] []], [.fn 72 [.ptr 0 15 0 0] []]]]), (64, [(1, .k (.int .i64)), (2, .k (.int .i64)), (8, .sl 4 1), (46, .sl 5 1), (47, .k (.int .i64)), (48, .k (.int .i64))], [.box [.k (.int .i64), .k (.int .i64), .k (.int .i64), .k (.int .i64), .k (.int .i64), .k (.int .i64), .k .bool, .k (.int .i64), .k .bool, .k .bool, .k (.int .i64), .k .bool, .sl 1 3, .sl 2 3, .sl 3 5], .row [.bool, .int .i64, .bool], .row [.bool, .int .i64, .bool], .row [.bool, .int .i64, .int .i64, .bool, .bool], .row [.int .i64], .lst 1 [[.fn 65 [.ptr 0 15 0 0] []], [.fn 66 [.ptr 0 15 0 0] []], [.fn 67 [.ptr 0 15 0 0] []], [.fn 68 [.ptr 0 15 0 0] []], [.fn 69 [.ptr 0 15 0 0] []], [.fn 70 [.ptr 0 15 0 0] []], [.fn 71 [.ptr 0 15 0 0] []], [.fn 72 [.ptr 0 15 0 0] []]]])] [(.exit 0, [8], [(64, [(8, .nils)], [.box [.k (.int .i64), .k (.int .i64), .k (.int .i64), .k (.int .i64), .k (.int .i64), .k (.int .i64), .k .bool, .k (.int .i64), .k .bool, .k .bool, .k (.int .i64), .k .bool, .sl 1 3, .sl 2 3, .sl 3 5], .row [.bool, .int .i64, .bool], .row [.bool, .int .i64, .bool], .row [.bool, .int .i64, .int .i64, .bool, .bool]]), (64, [(8, .sl 4 1)], [.box [.k (.int .i64), .k (.int .i64), .k (.int .i64), .k (.int .i64), .k (.int .i64), .k (.int .i64), .k .bool, .k (.int .i64), .k .bool, .k .bool, .k (.int .i64), .k .bool, .sl 1 3, .sl 2 3, .sl 3 5], .row [.bool, .int .i64, .bool], .row [.bool, .int .i64, .bool], .row [.bool, .int .i64, .int .i64, .bool, .bool], .row [.int .i64]])])]
def s39 : SigW := ⟨[.ptr 0 15 0 0, .k (.int .i64), .k (.int .i64)], [.box [.k (.int .i64), .k (.int .i64), .k (.int .i64), .k (.int .i64), .k (.int .i64), .k (.int .i64), .k .bool, .k (.int .i64), .k .bool, .k .bool, .k (.int .i64), .k .bool, .sl 1 3, .sl 2 3, .sl 3 5], .row [.bool, .int .i64, .bool], .row [.bool, .int .i64, .bool], .row [.bool, .int .i64, .int .i64, .bool, .bool]], [(.k (.int .i64), [.box [.k (.int .i64), .k (.int .i64), .k (.int .i64), .k (.int .i64), .k (.int .i64), .k (.int .i64), .k .bool, .k (.int .i64), .k .bool, .k .bool, .k (.int .i64), .k .bool, .sl 1 3, .sl 2 3, .sl 3 5], .row [.bool, .int .i64, .bool], .row [.bool, .int .i64, .bool], .row [.bool, .int .i64, .int .i64, .bool, .bool]])]⟩
def s42 : Sig := ⟨[.eptr [.k (.int .i64), .k (.int .i64), .k (.int .i64), .k (.int .i64), .k (.int .i64), .k (.int .i64), .k .bool, .k (.int .i64), .k .bool, .k .bool, .k (.int .i64), .k .bool, .k (.ro [.bool, .int .i64, .bool]), .k (.ro [.bool, .int .i64, .bool]), .k (.ro [.bool, .int .i64, .int .i64, .bool, .bool])], .k (.int .i64)], [(.tup [.agg [.k .bool, .k (.int .i64), .k (.int .i64), .k .bool, .k .bool], .k (.int .i64)], [])]⟩
end Go.Proofs.Ytgmefblkmidglaa
namespace Go.Proofs.Ytgmefblkmidglaa
open Go.Lite
def s35 : Sig := ⟨[.agg [.k (.int .i64), .k (.int .i64), .k (.int .i64), .k (.int .i64), .k (.int .i64), .k (.int .i64)]], [(.k .bool, [])]⟩
def s34 : Sig := ⟨[.agg [.k (.int .i64), .k (.int .i64), .k (.int .i64), .k (.int .i64), .k (.int .i64), .k (.int .i64)]], [(.tup [.nilp, .k (.int .i64)], []), (.tup [.ptr 0 15 0 0, .k (.int .i64)], [.box [.k (.int .i64), .k (.int .i64), .k (.int .i64), .k (.int .i64), .k (.int .i64), .k (.int .i64), .k .bool, .k (.int .i64), .k .bool, .k .bool, .k (.int .i64), .k .bool, .sl 1 3, .sl 2 3, .sl 3 5], .row [.bool, .int .i64, .bool], .row [.bool, .int .i64, .bool], .row [.bool, .int .i64, .int .i64, .bool, .bool]])]⟩
def l34_5 : LSig := mkLS [4, 58, 59] [(71, [(4, .ptr 0 15 0 0), (58, .k (.int .i64)), (59, .k (.int .i64))], [.box [.k (.int .i64), .k (.int .i64), .k (.int .i64), .k (.int .i64), .k (.int .i64), .k (.int .i64), .k .bool, .k (.int .i64), .k .bool, .k .bool, .k (.int .i64), .k .bool, .sl 1 3, .sl 2 3, .sl 3 5], .row [.bool, .int .i64, .bool], .row [.bool, .int .i64, .bool], .row [.bool, .int .i64, .int .i64, .bool, .bool]])] [(.exit 0, [4], [(71, [(4, .ptr 0 15 0 0)], [.box [.k (.int .i64), .k (.int .i64), .k (.int .i64), .k (.int .i64), .k (.int .i64), .k (.int .i64), .k .bool, .k (.int .i64), .k .bool, .k .bool, .k (.int .i64), .k .bool, .sl 1 3, .sl 2 3, .sl 3 5], .row [.bool, .int .i64, .bool], .row [.bool, .int .i64, .bool], .row [.bool, .int .i64, .int .i64, .bool, .bool]])])]
end Go.Proofs.Ytgmefblkmidglaa
set_option linter.unusedVariables false
namespace Go.Proofs.Ytgmefblkmidglaa
open Go.Lite
noncomputable section
def okPl (p0 p1 p2 p3 p4 p5 : Int) : Prop := (1 ≤ p0 ∧ p0 ≤ 60) ∧ (1 ≤ p1 ∧ p1 ≤ 100000) ∧ (1 ≤ p2 ∧ p2 ≤ p0) ∧ (0 ≤ p3 ∧ p3 ≤ 100000) ∧ (1 ≤ p4 ∧ p4 ≤ 100000) ∧ 1 ≤ p5 ∧ p5 ≤ 200
def okLo (l : List (List D)) : Prop := ∀ j, j < l.length → 0 ≤ ix (l.getD j []) 1 ∧ ix (l.getD j []) 1 ≤ 100000
def okCa (l : List (List D)) : Prop := ∀ j, j < l.length → (0 ≤ ix (l.getD j []) 1 ∧ ix (l.getD j []) 1 ≤ 100000) ∧ -1 ≤ ix (l.getD j []) 2 ∧ ix (l.getD j []) 2 ≤ 60
def tOK (t : Int) : Prop := 0 ≤ t ∧ t ≤ 100000
def evB (p0 p5 k s p c : Int) : Bool := decide ((1 ≤ k ∧ k ≤ 10) ∧ (0 ≤ s ∧ s ≤ 100000) ∧ (0 ≤ p ∧ p ≤ p0 - 1) ∧ (0 ≤ c ∧ c ≤ p5 - 1) ∧ (p = 0 ∨ k = 3 ∨ k = 4 ∨ k = 5 ∨ k = 8) ∧ (c = 0 ∨ k = 8 ∨ k = 9 ∨ k = 10))
def redR (c : List D) : Bool := bx c 0
def silR (t p1 : Int) (c : List D) : Bool := !bx c 2 || decide (t - ix c 1 > p1)
def stR (c : List D) : Bool := bx c 0
def befR (p2 : Int) (c : List D) : Bool := !bx c 3 && decide (ix c 2 < p2 - 1)
def misR (p0 p4 t : Int) (c : List D) : Bool := (!bx c 3 && !bx c 4) && (decide (ix c 2 < p0 - 1) && decide (t - ix c 1 > p4))
def intR (p3 t : Int) (c : List D) : Bool := decide (ix c 1 > t - p3)
def both (R : List D → Bool) (c : List D) : Bool := stR c && R c
def anyL (R : List D → Bool) (l : List (List D)) : Bool := !allFrom (fun j => !R (l.getD j [])) 0 l.length
def fstL (R : List D → Bool) (l : List (List D)) (i k : Nat) : Int := firstFrom (fun j => R (l.getD j [])) i k
def mk3b (a b c : D) : List D := [.b a.B, .i b.I, .b c.B]
def mk5c (a b c d e : D) : List D := [.b a.B, .i b.I, .i c.I, .b d.B, .b e.B]
def G45 (ds : List D) : T (List D) := match ds with
  | [n, a, b] => .leaf [.b (within n.I a.I b.I)]
  | _ => .fail
def G47 (ds : List D) : T (List D) := match ds with
  | [n, a, b] => .leaf [.b (within n.I a.I b.I)]
  | _ => .fail
def G61 (ds : List D) : T (List D) := match ds with
  | [p0, p1, p2, p3, p4, p5, ov, os, oh, cv, cs, ch, rd, po, ca] => .leaf [.b (decide (0 < ca.L.length))]
  | _ => .fail
def G62 (ds : List D) : T (List D) := match ds with
  | [p0, p1, p2, p3, p4, p5, ov, os, oh, cv, cs, ch, rd, po, ca, k, s, p, c] => .need (yes (okPl p0.I p1.I p2.I p3.I p4.I p5.I)) (.leaf [.b (evB p0.I p5.I k.I s.I p.I c.I)])
  | _ => .fail
def G85 (ds : List D) : T (List D) := match ds with
  | [v, s, h] => .leaf [.b (redR (mk3b v s h))]
  | _ => .fail
def G86 (ds : List D) : T (List D) := match ds with
  | [v, s, h, t, p0, p1, p2, p3, p4, p5, ov, os, oh, cv, cs, ch, rd, po, ca] => .need (yes (tOK s.I ∧ tOK t.I)) (.leaf [.b (silR t.I p1.I (mk3b v s h))])
  | _ => .fail
def G88 (ds : List D) : T (List D) := match ds with
  | [a, b, c, d, e, p0, p1, p2, p3, p4, p5, ov, os, oh, cv, cs, ch, rd, po, ca] => .need (yes (okPl p0.I p1.I p2.I p3.I p4.I p5.I)) (.leaf [.b (befR p2.I (mk5c a b c d e))])
  | _ => .fail
def G89 (ds : List D) : T (List D) := match ds with
  | [a, b, c, d, e, p0, p1, p2, p3, p4, p5, ov, os, oh, cv, cs, ch, rd, po, ca, t] => .need (yes (okPl p0.I p1.I p2.I p3.I p4.I p5.I ∧ tOK b.I ∧ tOK t.I)) (.leaf [.b (misR p0.I p4.I t.I (mk5c a b c d e))])
  | _ => .fail
def G90 (ds : List D) : T (List D) := match ds with
  | [a, b, c, d, e, t, p0, p1, p2, p3, p4, p5, ov, os, oh, cv, cs, ch, rd, po, ca] => .need (yes (okPl p0.I p1.I p2.I p3.I p4.I p5.I ∧ tOK t.I)) (.leaf [.b (intR p3.I t.I (mk5c a b c d e))])
  | _ => .fail
def G92 (ds : List D) : T (List D) := match ds with
  | [a, b, c, d, e] => .leaf [.b (stR (mk5c a b c d e))]
  | _ => .fail
def G1099 (ds : List D) : T (List D) := match ds with
  | [a, b, c, d, e, p0, p1, p2, p3, p4, p5, ov, os, oh, cv, cs, ch, rd, po, ca] => .need (yes (okPl p0.I p1.I p2.I p3.I p4.I p5.I)) (.leaf [.b (both (befR p2.I) (mk5c a b c d e))])
  | _ => .fail
def G2099 (ds : List D) : T (List D) := match ds with
  | [a, b, c, d, e, p0, p1, p2, p3, p4, p5, ov, os, oh, cv, cs, ch, rd, po, ca, t] => .need (yes (okPl p0.I p1.I p2.I p3.I p4.I p5.I ∧ tOK b.I ∧ tOK t.I)) (.leaf [.b (both (misR p0.I p4.I t.I) (mk5c a b c d e))])
  | _ => .fail
def G3099 (ds : List D) : T (List D) := match ds with
  | [a, b, c, d, e, t, p0, p1, p2, p3, p4, p5, ov, os, oh, cv, cs, ch, rd, po, ca] => .need (yes (okPl p0.I p1.I p2.I p3.I p4.I p5.I ∧ tOK t.I)) (.leaf [.b (both (intR p3.I t.I) (mk5c a b c d e))])
  | _ => .fail
def G1098 (ds : List D) : T (List D) := match ds with
  | [l] => .need (yes (l.L.length < big)) (.leaf [.i (fstL redR l.L 0 l.L.length)])
  | _ => .fail
def G1098_2 (ds : List D) : T (Ex × List D) := match ds with
  | [l, m, i] => .need (yes (l.L.length < big ∧ m.I = l.L.length ∧ 0 ≤ i.I ∧ i.I ≤ l.L.length))
      (.ite (decide (fstL redR l.L i.I.toNat (l.L.length - i.I.toNat) ≥ 0)) (.leaf (.ret, [.i (fstL redR l.L i.I.toNat (l.L.length - i.I.toNat))])) (.leaf (.exit 0, [])))
  | _ => .fail
def G1084 (ds : List D) : T (List D) := match ds with
  | [l] => .need (yes (l.L.length < big)) (.leaf [.b (anyL redR l.L)])
  | _ => .fail
def G2098 (ds : List D) : T (List D) := match ds with
  | [l, t, p0, p1, p2, p3, p4, p5, ov, os, oh, cv, cs, ch, rd, po, ca] => .need (yes (l.L.length < big ∧ okLo l.L ∧ tOK t.I)) (.leaf [.i (fstL (silR t.I p1.I) l.L 0 l.L.length)])
  | _ => .fail
def G2098_2 (ds : List D) : T (Ex × List D) := match ds with
  | [l, t, p0, p1, p2, p3, p4, p5, ov, os, oh, cv, cs, ch, rd, po, ca, m, i] => .need (yes (l.L.length < big ∧ okLo l.L ∧ tOK t.I ∧ m.I = l.L.length ∧ 0 ≤ i.I ∧ i.I ≤ l.L.length))
      (.ite (decide (fstL (silR t.I p1.I) l.L i.I.toNat (l.L.length - i.I.toNat) ≥ 0)) (.leaf (.ret, [.i (fstL (silR t.I p1.I) l.L i.I.toNat (l.L.length - i.I.toNat))])) (.leaf (.exit 0, [])))
  | _ => .fail
def G2084 (ds : List D) : T (List D) := match ds with
  | [l, t, p0, p1, p2, p3, p4, p5, ov, os, oh, cv, cs, ch, rd, po, ca] => .need (yes (l.L.length < big ∧ okLo l.L ∧ tOK t.I)) (.leaf [.b (anyL (silR t.I p1.I) l.L)])
  | _ => .fail
def G1100 (ds : List D) : T (List D) := match ds with
  | [l] => .need (yes (l.L.length < big)) (.leaf [.i (fstL stR l.L 0 l.L.length)])
  | _ => .fail
def G1100_2 (ds : List D) : T (Ex × List D) := match ds with
  | [l, m, i] => .need (yes (l.L.length < big ∧ m.I = l.L.length ∧ 0 ≤ i.I ∧ i.I ≤ l.L.length))
      (.ite (decide (fstL stR l.L i.I.toNat (l.L.length - i.I.toNat) ≥ 0)) (.leaf (.ret, [.i (fstL stR l.L i.I.toNat (l.L.length - i.I.toNat))])) (.leaf (.exit 0, [])))
  | _ => .fail
def G1091 (ds : List D) : T (List D) := match ds with
  | [l] => .need (yes (l.L.length < big)) (.leaf [.b (anyL stR l.L)])
  | _ => .fail
def G2100 (ds : List D) : T (List D) := match ds with
  | [l, p0, p1, p2, p3, p4, p5, ov, os, oh, cv, cs, ch, rd, po, ca] => .need (yes (l.L.length < big ∧ okPl p0.I p1.I p2.I p3.I p4.I p5.I)) (.leaf [.i (fstL (both (befR p2.I)) l.L 0 l.L.length)])
  | _ => .fail
def G2100_2 (ds : List D) : T (Ex × List D) := match ds with
  | [l, p0, p1, p2, p3, p4, p5, ov, os, oh, cv, cs, ch, rd, po, ca, m, i] => .need (yes (l.L.length < big ∧ okPl p0.I p1.I p2.I p3.I p4.I p5.I ∧ m.I = l.L.length ∧ 0 ≤ i.I ∧ i.I ≤ l.L.length))
      (.ite (decide (fstL (both (befR p2.I)) l.L i.I.toNat (l.L.length - i.I.toNat) ≥ 0)) (.leaf (.ret, [.i (fstL (both (befR p2.I)) l.L i.I.toNat (l.L.length - i.I.toNat))])) (.leaf (.exit 0, [])))
  | _ => .fail
def G2091 (ds : List D) : T (List D) := match ds with
  | [l, p0, p1, p2, p3, p4, p5, ov, os, oh, cv, cs, ch, rd, po, ca] => .need (yes (l.L.length < big ∧ okPl p0.I p1.I p2.I p3.I p4.I p5.I)) (.leaf [.b (anyL (both (befR p2.I)) l.L)])
  | _ => .fail
def G3100 (ds : List D) : T (List D) := match ds with
  | [l, p0, p1, p2, p3, p4, p5, ov, os, oh, cv, cs, ch, rd, po, ca, t] => .need (yes (l.L.length < big ∧ okPl p0.I p1.I p2.I p3.I p4.I p5.I ∧ okCa l.L ∧ tOK t.I)) (.leaf [.i (fstL (both (misR p0.I p4.I t.I)) l.L 0 l.L.length)])
  | _ => .fail
def G3100_2 (ds : List D) : T (Ex × List D) := match ds with
  | [l, p0, p1, p2, p3, p4, p5, ov, os, oh, cv, cs, ch, rd, po, ca, t, m, i] => .need (yes (l.L.length < big ∧ okPl p0.I p1.I p2.I p3.I p4.I p5.I ∧ okCa l.L ∧ tOK t.I ∧ m.I = l.L.length ∧ 0 ≤ i.I ∧ i.I ≤ l.L.length))
      (.ite (decide (fstL (both (misR p0.I p4.I t.I)) l.L i.I.toNat (l.L.length - i.I.toNat) ≥ 0)) (.leaf (.ret, [.i (fstL (both (misR p0.I p4.I t.I)) l.L i.I.toNat (l.L.length - i.I.toNat))])) (.leaf (.exit 0, [])))
  | _ => .fail
def G3091 (ds : List D) : T (List D) := match ds with
  | [l, p0, p1, p2, p3, p4, p5, ov, os, oh, cv, cs, ch, rd, po, ca, t] => .need (yes (l.L.length < big ∧ okPl p0.I p1.I p2.I p3.I p4.I p5.I ∧ okCa l.L ∧ tOK t.I)) (.leaf [.b (anyL (both (misR p0.I p4.I t.I)) l.L)])
  | _ => .fail
def G4100 (ds : List D) : T (List D) := match ds with
  | [l, t, p0, p1, p2, p3, p4, p5, ov, os, oh, cv, cs, ch, rd, po, ca] => .need (yes (l.L.length < big ∧ okPl p0.I p1.I p2.I p3.I p4.I p5.I ∧ okCa l.L ∧ tOK t.I)) (.leaf [.i (fstL (both (intR p3.I t.I)) l.L 0 l.L.length)])
  | _ => .fail
def G4100_2 (ds : List D) : T (Ex × List D) := match ds with
  | [l, t, p0, p1, p2, p3, p4, p5, ov, os, oh, cv, cs, ch, rd, po, ca, m, i] => .need (yes (l.L.length < big ∧ okPl p0.I p1.I p2.I p3.I p4.I p5.I ∧ okCa l.L ∧ tOK t.I ∧ m.I = l.L.length ∧ 0 ≤ i.I ∧ i.I ≤ l.L.length))
      (.ite (decide (fstL (both (intR p3.I t.I)) l.L i.I.toNat (l.L.length - i.I.toNat) ≥ 0)) (.leaf (.ret, [.i (fstL (both (intR p3.I t.I)) l.L i.I.toNat (l.L.length - i.I.toNat))])) (.leaf (.exit 0, [])))
  | _ => .fail
def G4091 (ds : List D) : T (List D) := match ds with
  | [l, t, p0, p1, p2, p3, p4, p5, ov, os, oh, cv, cs, ch, rd, po, ca] => .need (yes (l.L.length < big ∧ okPl p0.I p1.I p2.I p3.I p4.I p5.I ∧ okCa l.L ∧ tOK t.I)) (.leaf [.b (anyL (both (intR p3.I t.I)) l.L)])
  | _ => .fail
def G1087 (ds : List D) : T (List D) := match ds with
  | [p0, p1, p2, p3, p4, p5, ov, os, oh, cv, cs, ch, rd, po, ca, q0, q1, q2, q3, q4, q5, _, _, _, _, _, _, _, _, _] => .need (yes (okPl q0.I q1.I q2.I q3.I q4.I q5.I ∧ ca.L.length < big)) (.leaf [.b (anyL (both (befR q2.I)) ca.L)])
  | _ => .fail
def G2087 (ds : List D) : T (List D) := match ds with
  | [p0, p1, p2, p3, p4, p5, ov, os, oh, cv, cs, ch, rd, po, ca, q0, q1, q2, q3, q4, q5, _, _, _, _, _, _, _, _, _, t] => .need (yes (okPl q0.I q1.I q2.I q3.I q4.I q5.I ∧ ca.L.length < big ∧ okCa ca.L ∧ tOK t.I)) (.leaf [.b (anyL (both (misR q0.I q4.I t.I)) ca.L)])
  | _ => .fail
def G3087 (ds : List D) : T (List D) := match ds with
  | [p0, p1, p2, p3, p4, p5, ov, os, oh, cv, cs, ch, rd, po, ca, t, q0, q1, q2, q3, q4, q5, _, _, _, _, _, _, _, _, _] => .need (yes (okPl q0.I q1.I q2.I q3.I q4.I q5.I ∧ ca.L.length < big ∧ okCa ca.L ∧ tOK t.I)) (.leaf [.b (anyL (both (intR q3.I t.I)) ca.L)])
  | _ => .fail
def G65 (ds : List D) : T (List D) := match ds with
  | [p0, p1, p2, p3, p4, p5, ov, os, oh, cv, cs, ch, rd, po, ca, car, t] => (.leaf [.b (!ov.B)])
  | _ => .fail
def G66 (ds : List D) : T (List D) := match ds with
  | [p0, p1, p2, p3, p4, p5, ov, os, oh, cv, cs, ch, rd, po, ca, car, t] => .need (yes (rd.L.length < big)) (.leaf [.b (anyL redR rd.L)])
  | _ => .fail
def G67 (ds : List D) : T (List D) := match ds with
  | [p0, p1, p2, p3, p4, p5, ov, os, oh, cv, cs, ch, rd, po, ca, car, t] => .need (yes (po.L.length < big ∧ okLo po.L ∧ tOK t.I)) (.leaf [.b (anyL (silR t.I p1.I) po.L)])
  | _ => .fail
def G68 (ds : List D) : T (List D) := match ds with
  | [p0, p1, p2, p3, p4, p5, ov, os, oh, cv, cs, ch, rd, po, ca, car, t] => (.leaf [.b (!cv.B)])
  | _ => .fail
def G69 (ds : List D) : T (List D) := match ds with
  | [p0, p1, p2, p3, p4, p5, ov, os, oh, cv, cs, ch, rd, po, ca, car, t] => .need (yes (okPl p0.I p1.I p2.I p3.I p4.I p5.I ∧ ca.L.length < big)) (.leaf [.b (anyL (both (befR p2.I)) ca.L)])
  | _ => .fail
def G70 (ds : List D) : T (List D) := match ds with
  | [p0, p1, p2, p3, p4, p5, ov, os, oh, cv, cs, ch, rd, po, ca, car, t] => .need (yes (okPl p0.I p1.I p2.I p3.I p4.I p5.I ∧ ca.L.length < big ∧ okCa ca.L ∧ tOK t.I)) (.leaf [.b (anyL (both (misR p0.I p4.I t.I)) ca.L)])
  | _ => .fail
def G71 (ds : List D) : T (List D) := match ds with
  | [p0, p1, p2, p3, p4, p5, ov, os, oh, cv, cs, ch, rd, po, ca, car, t] => .need (yes (okPl p0.I p1.I p2.I p3.I p4.I p5.I ∧ ca.L.length < big ∧ okCa ca.L ∧ tOK t.I)) (.leaf [.b (anyL (both (intR p3.I t.I)) ca.L)])
  | _ => .fail
def G72 (ds : List D) : T (List D) := match ds with
  | [p0, p1, p2, p3, p4, p5, ov, os, oh, cv, cs, ch, rd, po, ca, car, t] => .need (yes (ca.L.length < big ∧ 0 ≤ car.I ∧ car.I ≤ ca.L.length)) (.leaf [.b (anyL stR (ca.L.drop car.I.toNat))])
  | _ => .fail
end
end Go.Proofs.Ytgmefblkmidglaa
set_option linter.unusedVariables false
namespace Go.Proofs.Ytgmefblkmidglaa
open Go.Lite
noncomputable section
def okG (p0 p1 p2 p3 p4 p5 nr np nc : Int) (rd po ca : List (List D)) : Prop := okPl p0 p1 p2 p3 p4 p5 ∧ (nr = rd.length ∧ np = po.length ∧ nc = ca.length) ∧ ((rd.length : Int) = p0 ∧ (po.length : Int) = p0 ∧ (ca.length : Int) = p5) ∧ okLo rd ∧ okLo po ∧ okCa ca
def newB (h : Bool) (s0 : Int) (v bad : Bool) (s : Int) : Bool := !h || (decide (s > s0) || (s == s0 && v == bad))
def hearV (v0 h : Bool) (s0 : Int) (v bad : Bool) (s : Int) : Bool := if newB h s0 v bad s then v else v0
def mxI (a b : Int) : Int := if b > a then b else a
def hearR (c : List D) (v bad : Bool) (s : Int) : List D := [if newB (bx c 2) (ix c 1) v bad s then .b v else c.getD 0 default, .i (mxI (ix c 1) s), .b true]
def hearL (l : List (List D)) (k : Nat) (v bad : Bool) (s : Int) : List (List D) := l.set k (hearR (l.getD k []) v bad s)
def ruleB (p0 p1 p2 p3 p4 : Int) (ov cv : Bool) (rd po ca : List (List D)) (car t : Int) : Nat → Bool
  | 0 => !ov
  | 1 => anyL redR rd
  | 2 => anyL (silR t p1) po
  | 3 => !cv
  | 4 => anyL (both (befR p2)) ca
  | 5 => anyL (both (misR p0 p4 t)) ca
  | 6 => anyL (both (intR p3 t)) ca
  | _ => anyL stR (ca.drop car.toNat)
def rulesF (R : Nat → Bool) : Nat → Nat → List (List D) → List (List D)
  | _, 0, o => o
  | i, k + 1, o => rulesF R (i + 1) k (if R i then o ++ [[.i (1 + i)]] else o)
def startC (ca : List (List D)) (k : Nat) (t : Int) : List (List D) := ca.set k [.b true, .i t, (ca.getD k []).getD 2 default, (ca.getD k []).getD 3 default, (ca.getD k []).getD 4 default]
def validB (p5 car t : Int) : Bool := decide ((0 ≤ car ∧ car ≤ p5 - 1) ∧ 0 ≤ t ∧ t ≤ 100000)
def postC (ca : List (List D)) (c : Nat) (p : Int) : List (List D) := if bx (ca.getD c []) 0 then ca.set c [(ca.getD c []).getD 0 default, (ca.getD c []).getD 1 default, .i (mxI (ix (ca.getD c []) 2) p), (ca.getD c []).getD 3 default, (ca.getD c []).getD 4 default] else ca
def safeC (ca : List (List D)) (c : Nat) : List (List D) := ca.set c [(ca.getD c []).getD 0 default, (ca.getD c []).getD 1 default, (ca.getD c []).getD 2 default, .b (bx (ca.getD c []) 3 || bx (ca.getD c []) 0), (ca.getD c []).getD 4 default]
def foundC (ca : List (List D)) (c : Nat) : List (List D) := ca.set c [(ca.getD c []).getD 0 default, (ca.getD c []).getD 1 default, (ca.getD c []).getD 2 default, (ca.getD c []).getD 3 default, .b (bx (ca.getD c []) 4 || bx (ca.getD c []) 0)]
def evOv (k s : Int) (v h : Bool) (s0 : Int) : Bool := if k = 1 ∨ k = 2 then hearV v h s0 (k == 1) false s else v
def evOs (k s : Int) (s0 : Int) : Int := if k = 1 ∨ k = 2 then mxI s0 s else s0
def evOh (k : Int) (h : Bool) : Bool := if k = 1 ∨ k = 2 then true else h
def evCv (k s : Int) (v h : Bool) (s0 : Int) : Bool := if k = 6 ∨ k = 7 then hearV v h s0 (k == 6) false s else v
def evCs (k s : Int) (s0 : Int) : Int := if k = 6 ∨ k = 7 then mxI s0 s else s0
def evCh (k : Int) (h : Bool) : Bool := if k = 6 ∨ k = 7 then true else h
def evRd (k s p : Int) (rd : List (List D)) : List (List D) := if k = 4 ∨ k = 5 then hearL rd p.toNat (k == 4) true s else rd
def evPo (k s p : Int) (po : List (List D)) : List (List D) := if k = 3 ∨ k = 4 ∨ k = 5 ∨ k = 8 then hearL po p.toNat true true s else po
def evCa (k p c : Int) (ca : List (List D)) : List (List D) := if k = 8 then postC ca c.toNat p else if k = 9 then safeC ca c.toNat else if k = 10 then foundC ca c.toNat else ca
def G1064 (ds : List D) : T (List D) := match ds with
  | [v, s, b, p0, p1, p2, p3, p4, p5, ov, os, oh, cv, cs, ch, nr, np, nc, rd, po, ca] => .need (yes (nr.I = rd.L.length ∧ np.I = po.L.length ∧ nc.I = ca.L.length)) (.leaf [.i p0.I, .i p1.I, .i p2.I, .i p3.I, .i p4.I, .i p5.I, .b (hearV ov.B oh.B os.I v.B b.B s.I), .i (mxI os.I s.I), .b true, .b cv.B, .i cs.I, .b ch.B, .i nr.I, .i np.I, .i nc.I, .l rd.L, .l po.L, .l ca.L])
  | _ => .fail
def G2064 (ds : List D) : T (List D) := match ds with
  | [v, s, b, p0, p1, p2, p3, p4, p5, ov, os, oh, cv, cs, ch, nr, np, nc, rd, po, ca] => .need (yes (nr.I = rd.L.length ∧ np.I = po.L.length ∧ nc.I = ca.L.length)) (.leaf [.i p0.I, .i p1.I, .i p2.I, .i p3.I, .i p4.I, .i p5.I, .b ov.B, .i os.I, .b oh.B, .b (hearV cv.B ch.B cs.I v.B b.B s.I), .i (mxI cs.I s.I), .b true, .i nr.I, .i np.I, .i nc.I, .l rd.L, .l po.L, .l ca.L])
  | _ => .fail
def G3064 (ds : List D) : T (List D) := match ds with
  | [k, v, s, b, l] => .need (yes (0 ≤ k.I ∧ k.I < l.L.length)) (.leaf [.l (hearL l.L k.I.toNat v.B b.B s.I)])
  | _ => .fail
def G63 (ds : List D) : T (List D) := match ds with
  | [k, s, p, c, p0, p1, p2, p3, p4, p5, ov, os, oh, cv, cs, ch, nr, np, nc, rd, po, ca] => .need (yes ((nr.I = rd.L.length ∧ np.I = po.L.length ∧ nc.I = ca.L.length) ∧ 0 ≤ p.I ∧ p.I < po.L.length)) (.leaf [.i k.I, .i s.I, .i p.I, .i c.I, .i p0.I, .i p1.I, .i p2.I, .i p3.I, .i p4.I, .i p5.I, .b ov.B, .i os.I, .b oh.B, .b cv.B, .i cs.I, .b ch.B, .i nr.I, .i np.I, .i nc.I, .l rd.L, .l (hearL po.L p.I.toNat true true s.I), .l ca.L])
  | _ => .fail
def G38 (ds : List D) : T (List D) := match ds with
  | [k, s, p, c, p0, p1, p2, p3, p4, p5, ov, os, oh, cv, cs, ch, nr, np, nc, rd, po, ca] => .need (yes (okG p0.I p1.I p2.I p3.I p4.I p5.I nr.I np.I nc.I rd.L po.L ca.L ∧ tOK os.I ∧ tOK cs.I)) (.ite (evB p0.I p5.I k.I s.I p.I c.I)
      (.leaf [.i 0, .i p0.I, .i p1.I, .i p2.I, .i p3.I, .i p4.I, .i p5.I, .b (evOv k.I s.I ov.B oh.B os.I), .i (evOs k.I s.I os.I), .b (evOh k.I oh.B), .b (evCv k.I s.I cv.B ch.B cs.I), .i (evCs k.I s.I cs.I), .b (evCh k.I ch.B), .i nr.I, .i np.I, .i nc.I, .l (evRd k.I s.I p.I rd.L), .l (evPo k.I s.I p.I po.L), .l (evCa k.I p.I c.I ca.L)])
      (.leaf [.i 2, .i p0.I, .i p1.I, .i p2.I, .i p3.I, .i p4.I, .i p5.I, .b ov.B, .i os.I, .b oh.B, .b cv.B, .i cs.I, .b ch.B, .i nr.I, .i np.I, .i nc.I, .l rd.L, .l po.L, .l ca.L]))
  | _ => .fail
def G40 (ds : List D) : T (List D) := match ds with
  | [car, t, p0, p1, p2, p3, p4, p5, ov, os, oh, cv, cs, ch, nr, np, nc, rd, po, ca] => .need (yes (okG p0.I p1.I p2.I p3.I p4.I p5.I nr.I np.I nc.I rd.L po.L ca.L ∧ tOK os.I ∧ tOK cs.I)) (.ite (validB p5.I car.I t.I)
      (.ite (rulesF (ruleB p0.I p1.I p2.I p3.I p4.I ov.B cv.B rd.L po.L ca.L car.I t.I) 0 8 []).isEmpty (.leaf [.i 0, .i 0, .i p0.I, .i p1.I, .i p2.I, .i p3.I, .i p4.I, .i p5.I, .b ov.B, .i os.I, .b oh.B, .b cv.B, .i cs.I, .b ch.B, .i nr.I, .i np.I, .i nc.I, .l rd.L, .l po.L, .l ca.L]) (.leaf [.i 1, .i (rulesF (ruleB p0.I p1.I p2.I p3.I p4.I ov.B cv.B rd.L po.L ca.L car.I t.I) 0 8 []).length, .i 0, .i p0.I, .i p1.I, .i p2.I, .i p3.I, .i p4.I, .i p5.I, .b ov.B, .i os.I, .b oh.B, .b cv.B, .i cs.I, .b ch.B, .i nr.I, .i np.I, .i nc.I, .l rd.L, .l po.L, .l ca.L, .l (rulesF (ruleB p0.I p1.I p2.I p3.I p4.I ov.B cv.B rd.L po.L ca.L car.I t.I) 0 8 [])]))
      (.leaf [.i 0, .i 2, .i p0.I, .i p1.I, .i p2.I, .i p3.I, .i p4.I, .i p5.I, .b ov.B, .i os.I, .b oh.B, .b cv.B, .i cs.I, .b ch.B, .i nr.I, .i np.I, .i nc.I, .l rd.L, .l po.L, .l ca.L]))
  | _ => .fail
def G40_8 (ds : List D) : T (Ex × List D) := match ds with
  | [j, car, t, m, n, i, p0, p1, p2, p3, p4, p5, ov, os, oh, cv, cs, ch, nr, np, nc, rd, po, ca] => .need (yes (j.I = 0 ∧ (okG p0.I p1.I p2.I p3.I p4.I p5.I nr.I np.I nc.I rd.L po.L ca.L ∧ tOK os.I ∧ tOK cs.I) ∧ tOK t.I ∧ (0 ≤ car.I ∧ car.I ≤ ca.L.length) ∧ m.I = 8 ∧ n.I = 8 ∧ 0 ≤ i.I ∧ i.I ≤ 8))
      (.ite (rulesF (ruleB p0.I p1.I p2.I p3.I p4.I ov.B cv.B rd.L po.L ca.L car.I t.I) i.I.toNat (8 - i.I.toNat) []).isEmpty (.leaf (.exit 0, [.i 0, .i p0.I, .i p1.I, .i p2.I, .i p3.I, .i p4.I, .i p5.I, .b ov.B, .i os.I, .b oh.B, .b cv.B, .i cs.I, .b ch.B, .i nr.I, .i np.I, .i nc.I, .l rd.L, .l po.L, .l ca.L])) (.leaf (.exit 0, [.i 1, .i (rulesF (ruleB p0.I p1.I p2.I p3.I p4.I ov.B cv.B rd.L po.L ca.L car.I t.I) i.I.toNat (8 - i.I.toNat) []).length, .i p0.I, .i p1.I, .i p2.I, .i p3.I, .i p4.I, .i p5.I, .b ov.B, .i os.I, .b oh.B, .b cv.B, .i cs.I, .b ch.B, .i nr.I, .i np.I, .i nc.I, .l rd.L, .l po.L, .l ca.L, .l (rulesF (ruleB p0.I p1.I p2.I p3.I p4.I ov.B cv.B rd.L po.L ca.L car.I t.I) i.I.toNat (8 - i.I.toNat) [])])))
  | [j, car, t, q, m, n, i, p0, p1, p2, p3, p4, p5, ov, os, oh, cv, cs, ch, nr, np, nc, rd, po, ca, o] => .need (yes (j.I = 1 ∧ (okG p0.I p1.I p2.I p3.I p4.I p5.I nr.I np.I nc.I rd.L po.L ca.L ∧ tOK os.I ∧ tOK cs.I) ∧ tOK t.I ∧ (0 ≤ car.I ∧ car.I ≤ ca.L.length) ∧ m.I = 8 ∧ n.I = 8 ∧ (0 ≤ i.I ∧ i.I ≤ 8) ∧ q.I = o.L.length ∧ o.L.length ≤ i.I))
      (.leaf (.exit 0, [.i 1, .i (rulesF (ruleB p0.I p1.I p2.I p3.I p4.I ov.B cv.B rd.L po.L ca.L car.I t.I) i.I.toNat (8 - i.I.toNat) o.L).length, .i p0.I, .i p1.I, .i p2.I, .i p3.I, .i p4.I, .i p5.I, .b ov.B, .i os.I, .b oh.B, .b cv.B, .i cs.I, .b ch.B, .i nr.I, .i np.I, .i nc.I, .l rd.L, .l po.L, .l ca.L, .l (rulesF (ruleB p0.I p1.I p2.I p3.I p4.I ov.B cv.B rd.L po.L ca.L car.I t.I) i.I.toNat (8 - i.I.toNat) o.L)]))
  | _ => .fail
def G39 (ds : List D) : T (List D) := match ds with
  | [car, t, p0, p1, p2, p3, p4, p5, ov, os, oh, cv, cs, ch, nr, np, nc, rd, po, ca] => .need (yes (okG p0.I p1.I p2.I p3.I p4.I p5.I nr.I np.I nc.I rd.L po.L ca.L ∧ tOK os.I ∧ tOK cs.I)) (.ite (validB p5.I car.I t.I)
      (.ite (rulesF (ruleB p0.I p1.I p2.I p3.I p4.I ov.B cv.B rd.L po.L ca.L car.I t.I) 0 8 []).isEmpty (.leaf [.i 0, .i p0.I, .i p1.I, .i p2.I, .i p3.I, .i p4.I, .i p5.I, .b ov.B, .i os.I, .b oh.B, .b cv.B, .i cs.I, .b ch.B, .i nr.I, .i np.I, .i nc.I, .l rd.L, .l po.L, .l (startC ca.L car.I.toNat t.I)]) (.leaf [.i 7, .i p0.I, .i p1.I, .i p2.I, .i p3.I, .i p4.I, .i p5.I, .b ov.B, .i os.I, .b oh.B, .b cv.B, .i cs.I, .b ch.B, .i nr.I, .i np.I, .i nc.I, .l rd.L, .l po.L, .l ca.L]))
      (.leaf [.i 2, .i p0.I, .i p1.I, .i p2.I, .i p3.I, .i p4.I, .i p5.I, .b ov.B, .i os.I, .b oh.B, .b cv.B, .i cs.I, .b ch.B, .i nr.I, .i np.I, .i nc.I, .l rd.L, .l po.L, .l ca.L]))
  | _ => .fail
def G42 (ds : List D) : T (List D) := match ds with
  | [p0, p1, p2, p3, p4, p5, ov, os, oh, cv, cs, ch, rd, po, ca, car] => .need (yes (1 ≤ p5.I ∧ p5.I ≤ 200 ∧ (ca.L.length : Int) = p5.I)) (.ite (decide (0 ≤ car.I ∧ car.I ≤ p5.I - 1))
      (.leaf [.b (bx (ca.L.getD car.I.toNat []) 0), .i (ix (ca.L.getD car.I.toNat []) 1), .i (ix (ca.L.getD car.I.toNat []) 2), .b (bx (ca.L.getD car.I.toNat []) 3), .b (bx (ca.L.getD car.I.toNat []) 4), .i 0]) (.leaf [.b false, .i 0, .i 0, .b false, .b false, .i 2]))
  | _ => .fail
end
end Go.Proofs.Ytgmefblkmidglaa
namespace Go.Proofs.Ytgmefblkmidglaa
open Go.Lite
set_option linter.unusedVariables false
structure GS where
  ov : Bool
  os : Int
  oh : Bool
  cv : Bool
  cs : Int
  ch : Bool
  rd : List (List D)
  po : List (List D)
  ca : List (List D)
noncomputable section
def hearE (p0 p5 k s p c : Int) (g : GS) : GS := if evB p0 p5 k s p c then ⟨evOv k s g.ov g.oh g.os, evOs k s g.os, evOh k g.oh, evCv k s g.cv g.ch g.cs, evCs k s g.cs, evCh k g.ch, evRd k s p g.rd, evPo k s p g.po, evCa k p c g.ca⟩ else g
def modL (f : List D → List D) (l : List (List D)) (k : Nat) : List (List D) := l.set k (f (l.getD k []))
def postR (p : Int) (c : List D) : List D := if bx c 0 then [c.getD 0 default, c.getD 1 default, .i (mxI (ix c 2) p), c.getD 3 default, c.getD 4 default] else c
def safeR (c : List D) : List D := [c.getD 0 default, c.getD 1 default, c.getD 2 default, .b (bx c 3 || bx c 0), c.getD 4 default]
def foundR (c : List D) : List D := [c.getD 0 default, c.getD 1 default, c.getD 2 default, c.getD 3 default, .b (bx c 4 || bx c 0)]
def rdR (k s : Int) (c : List D) : List D := if k = 4 ∨ k = 5 then hearR c (k == 4) true s else c
def poR (k s : Int) (c : List D) : List D := if k = 3 ∨ k = 4 ∨ k = 5 ∨ k = 8 then hearR c true true s else c
def caR (k p : Int) (c : List D) : List D := if k = 8 then postR p c else if k = 9 then safeR c else if k = 10 then foundR c else c
def zeroL (l : List (List D)) : Prop := ∀ j, bx (l.getD j []) 2 = false → ix (l.getD j []) 1 = 0
structure Inv (g : GS) : Prop where
  o : g.oh = false → g.os = 0
  c : g.ch = false → g.cs = 0
  r : zeroL g.rd
  p : zeroL g.po
end
theorem mx_spec (a b : Int) : a ≤ mxI a b ∧ b ≤ mxI a b ∧ (mxI a b = a ∨ mxI a b = b) := by
  unfold mxI
  split <;> omega
theorem set_same' (l : List (List D)) (k : Nat) : l.set k (l.getD k []) = l := by
  apply List.ext_getElem? fun j => ?_
  rw [List.getElem?_set]
  split
  · subst_vars
    split
    · simp [List.getD_eq_getElem?_getD, *]
    · rw [List.getElem?_eq_none (by omega)]
  · rfl
theorem mod_get (f : List D → List D) (l : List (List D)) (k j : Nat) : (modL f l k).getD j [] = if j = k ∧ k < l.length then f (l.getD k []) else l.getD j [] := by
  unfold modL
  rw [List.getD_eq_getElem?_getD, List.getElem?_set]
  by_cases e : k = j
  · subst e
    by_cases h : k < l.length
    · rw [if_pos rfl, if_pos h, if_pos ⟨rfl, h⟩]
      rfl
    · rw [if_pos rfl, if_neg h, if_neg (fun h' => h h'.2), List.getD_eq_getElem?_getD, List.getElem?_eq_none (by omega)]
  · rw [if_neg e, if_neg (fun h' => e h'.1.symm), List.getD_eq_getElem?_getD]
theorem rd_mod (k s p : Int) (l : List (List D)) : evRd k s p l = modL (rdR k s) l p.toNat := by
  unfold evRd modL rdR hearL
  split
  · rfl
  · exact (set_same' l _).symm
theorem po_mod (k s p : Int) (l : List (List D)) : evPo k s p l = modL (poR k s) l p.toNat := by
  unfold evPo modL poR hearL
  split
  · rfl
  · exact (set_same' l _).symm
theorem ca_mod (k p c : Int) (l : List (List D)) : evCa k p c l = modL (caR k p) l c.toNat := by
  unfold evCa modL caR
  split
  · unfold postC postR
    split
    · rfl
    · exact (set_same' l _).symm
  · split
    · rfl
    · split
      · rfl
      · exact (set_same' l _).symm
end Go.Proofs.Ytgmefblkmidglaa
set_option linter.unusedVariables false
namespace Go.Proofs.Ytgmefblkmidglaa
open Go.Lite
noncomputable section
def planG (p0 p1 p2 p3 p4 p5 : Int) : Bool := decide ((1 ≤ p0 ∧ p0 ≤ 60) ∧ (1 ≤ p1 ∧ p1 ≤ 100000) ∧ (1 ≤ p2 ∧ p2 ≤ p0) ∧ (0 ≤ p3 ∧ p3 ≤ 100000) ∧ (1 ≤ p4 ∧ p4 ≤ 100000) ∧ 1 ≤ p5 ∧ p5 ≤ 200)
def lo0 : List D := [.b false, .i 0, .b false]
def ca0 : List D := [.b false, .i 0, .i 0, .b false, .b false]
def ca1 : List D := [.b false, .i 0, .i (-1), .b false, .b false]
def G35 (ds : List D) : T (List D) := match ds with
  | [p0, p1, p2, p3, p4, p5] => .leaf [.b (planG p0.I p1.I p2.I p3.I p4.I p5.I)]
  | _ => .fail
def G34 (ds : List D) : T (List D) := match ds with
  | [p0, p1, p2, p3, p4, p5] => .ite (planG p0.I p1.I p2.I p3.I p4.I p5.I)
      (.leaf [.i 1, .i 0, .i p0.I, .i p1.I, .i p2.I, .i p3.I, .i p4.I, .i p5.I, .b false, .i 0, .b false, .b false, .i 0, .b false, .i p0.I, .i p0.I, .i p5.I, .l (List.replicate p0.I.toNat lo0), .l (List.replicate p0.I.toNat lo0), .l (List.replicate p5.I.toNat ca1)])
      (.leaf [.i 0, .i 2])
  | _ => .fail
def G34_5 (ds : List D) : T (Ex × List D) := match ds with
  | [m, i, p0, p1, p2, p3, p4, p5, ov, os, oh, cv, cs, ch, nr, np, nc, rd, po, ca] => .need (yes ((nr.I = rd.L.length ∧ np.I = po.L.length ∧ nc.I = ca.L.length) ∧ m.I = ca.L.length ∧ ca.L.length ≤ 200 ∧ (0 ≤ i.I ∧ i.I ≤ m.I) ∧ ca.L = List.replicate i.I.toNat ca1 ++ List.replicate (ca.L.length - i.I.toNat) ca0))
      (.leaf (.exit 0, [.i p0.I, .i p1.I, .i p2.I, .i p3.I, .i p4.I, .i p5.I, .b ov.B, .i os.I, .b oh.B, .b cv.B, .i cs.I, .b ch.B, .i nr.I, .i np.I, .i nc.I, .l rd.L, .l po.L, .l (List.replicate ca.L.length ca1)]))
  | _ => .fail
def say1 (al fo po : Int) (e : List D) (s : Int × Bool) : Int × Bool :=
  if (ix e 0 ≠ al ∧ ix e 0 ≠ fo) ∨ ix e 2 ≠ po ∨ ix e 1 < s.1 then s else if ix e 1 > s.1 then (ix e 1, ix e 0 == fo) else (s.1, s.2 || ix e 0 == fo)
def sayF (al fo po : Int) (ev : List (List D)) : Nat → Nat → Int × Bool → Int × Bool
  | _, 0, s => s
  | i, k + 1, s => sayF al fo po ev (i + 1) k (say1 al fo po (ev.getD i []) s)
def lst1 (po : Int) (e : List D) (t : Int) : Int := if ix e 2 = po ∧ (ix e 0 = 3 ∨ ix e 0 = 4 ∨ ix e 0 = 5 ∨ ix e 0 = 8) then mxI t (ix e 1) else t
def lstF (po : Int) (ev : List (List D)) : Nat → Nat → Int → Int
  | _, 0, t => t
  | i, k + 1, t => lstF po ev (i + 1) k (lst1 po (ev.getD i []) t)
def lastB (po : Int) (ev : List (List D)) : Int := lstF po ev 0 ev.length (-1)
end
end Go.Proofs.Ytgmefblkmidglaa
namespace Go.Proofs.Ytgmefblkmidglaa
open Go.Lite
set_option linter.unusedVariables false
theorem sayF_app {al fo po : Int} {ev : List (List D)} {e : List D} : ∀ (k i : Nat) (s : Int × Bool), i + k = ev.length → sayF al fo po (ev ++ [e]) i (k + 1) s = say1 al fo po e (sayF al fo po ev i k s)
  | 0, i, s, h => by
    show say1 al fo po ((ev ++ [e]).getD i []) s = _
    rw [List.getD_eq_getElem?_getD, List.getElem?_append_right (by omega), show i - ev.length = 0 by omega]
    rfl
  | k + 1, i, s, h => by
    show sayF al fo po (ev ++ [e]) (i + 1) (k + 1) (say1 al fo po ((ev ++ [e]).getD i []) s) = say1 al fo po e (sayF al fo po ev (i + 1) k (say1 al fo po (ev.getD i []) s))
    rw [sayF_app k (i + 1) _ (by omega), List.getD_eq_getElem?_getD, List.getElem?_append_left (by omega), ← List.getD_eq_getElem?_getD]
theorem lstF_app {po : Int} {ev : List (List D)} {e : List D} : ∀ (k i : Nat) (s : Int), i + k = ev.length → lstF po (ev ++ [e]) i (k + 1) s = lst1 po e (lstF po ev i k s)
  | 0, i, s, h => by
    show lst1 po ((ev ++ [e]).getD i []) s = _
    rw [List.getD_eq_getElem?_getD, List.getElem?_append_right (by omega), show i - ev.length = 0 by omega]
    rfl
  | k + 1, i, s, h => by
    show lstF po (ev ++ [e]) (i + 1) (k + 1) (lst1 po ((ev ++ [e]).getD i []) s) = lst1 po e (lstF po ev (i + 1) k (lst1 po (ev.getD i []) s))
    rw [lstF_app k (i + 1) _ (by omega), List.getD_eq_getElem?_getD, List.getElem?_append_left (by omega), ← List.getD_eq_getElem?_getD]
noncomputable section
def sayS (al fo po : Int) (fi : Bool) (ev : List (List D)) : Int × Bool := sayF al fo po ev 0 ev.length (-1, fi)
structure LvO (v h : Bool) (s : Int) (q : Int × Bool) : Prop where
  v : v = q.2
  z : h = false → s = 0
  n : h = false → q.1 = -1
  y : h = true → q.1 = s ∧ 0 ≤ s
structure Same (p0 : Int) (g : GS) (ev : List (List D)) : Prop where
  o : LvO (!g.ov) g.oh g.os (sayS 1 2 0 true ev)
  c : LvO (!g.cv) g.ch g.cs (sayS 6 7 0 true ev)
  r : ∀ j : Nat, (j : Int) < p0 → LvO (bx (g.rd.getD j []) 0) (bx (g.rd.getD j []) 2) (ix (g.rd.getD j []) 1) (sayS 5 4 j false ev)
  p : ∀ j : Nat, (j : Int) < p0 → (bx (g.po.getD j []) 2 = false → ix (g.po.getD j []) 1 = 0 ∧ lastB j ev = -1) ∧ (bx (g.po.getD j []) 2 = true → lastB j ev = ix (g.po.getD j []) 1 ∧ 0 ≤ ix (g.po.getD j []) 1)
end
theorem sayS_app {al fo po : Int} {fi : Bool} {ev : List (List D)} {e : List D} : sayS al fo po fi (ev ++ [e]) = say1 al fo po e (sayS al fo po fi ev) := by
  unfold sayS
  rw [List.length_append]
  exact sayF_app ev.length 0 _ (by omega)
theorem lastB_app {po : Int} {ev : List (List D)} {e : List D} : lastB po (ev ++ [e]) = lst1 po e (lastB po ev) := by
  unfold lastB
  rw [List.length_append]
  exact lstF_app ev.length 0 _ (by omega)
theorem say_no {al fo po k s p c : Int} {q : Int × Bool} (h : (k ≠ al ∧ k ≠ fo) ∨ p ≠ po) : say1 al fo po [.i k, .i s, .i p, .i c] q = q :=
  if_pos (h.elim .inl fun h => .inr (.inl h))
theorem stage_say {al fo k s p c : Int} (hne : al ≠ fo) {v h : Bool} {s0 : Int} {q : Int × Bool} (H : LvO (!v) h s0 q) (hk : k = al ∨ k = fo) (hp : p = 0) (hs : 0 ≤ s) :
    LvO (!(hearV v h s0 (k == al) false s)) true (mxI s0 s) (say1 al fo 0 [.i k, .i s, .i p, .i c] q) := by
  obtain ⟨t, b⟩ := q
  obtain ⟨hv, hz, hn, hy⟩ := H
  simp only at hv hn hy
  have hm := mx_spec s0 s
  have hc : ¬ (k ≠ al ∧ k ≠ fo) := fun h => hk.elim h.1 h.2
  have hkb : (k == fo) = !(k == al) := by
    rcases hk with rfl | rfl
    · simp [hne]
    · simp [Ne.symm hne]
  have cond : ∀ {x}, (ix [D.i k, .i s, .i p, .i c] 0 ≠ al ∧ ix [D.i k, .i s, .i p, .i c] 0 ≠ fo) ∨ ix [D.i k, .i s, .i p, .i c] 2 ≠ (0 : Int) ∨ ix [D.i k, .i s, .i p, .i c] 1 < x ↔ s < x := fun {x} =>
    ⟨fun h => h.elim (fun h => absurd h hc) fun h => h.elim (fun h => absurd hp h) id, fun h => .inr (.inr h)⟩
  have s1 : s < t → say1 al fo (0 : Int) [.i k, .i s, .i p, .i c] (t, b) = (t, b) := fun h => if_pos (cond.2 h)
  have s2 : s > t → say1 al fo (0 : Int) [.i k, .i s, .i p, .i c] (t, b) = (s, (k == fo)) := fun h => (if_neg (fun h' => by have := cond.1 h'; simp only at this; omega)).trans (if_pos h)
  have s3 : s = t → say1 al fo (0 : Int) [.i k, .i s, .i p, .i c] (t, b) = (t, b || (k == fo)) := fun h => (if_neg (fun h' => by have := cond.1 h'; simp only at this; omega)).trans (if_neg (by show ¬ s > t; omega))
  have v1 : newB h s0 (k == al) false s = true → hearV v h s0 (k == al) false s = (k == al) := fun h => if_pos h
  have v2 : newB h s0 (k == al) false s = false → hearV v h s0 (k == al) false s = v := fun h => if_neg (by rw [h]; exact Bool.false_ne_true)
  have nb : newB h s0 (k == al) false s = (!h || (decide (s > s0) || (s == s0 && (k == al) == false))) := rfl
  by_cases h1 : s < t
  · rw [s1 h1]
    cases h with
    | false => have := hn rfl; omega
    | true =>
      obtain ⟨e1, e2⟩ := hy rfl
      rw [v2 (by rw [nb, decide_eq_false (p := s > s0) (by omega), beq_eq_false_iff_ne.2 (show s ≠ s0 by omega)]; rfl)]
      exact ⟨hv, (fun h => by cases h), (fun h => by cases h), fun _ => ⟨by simp only; omega, by omega⟩⟩
  · by_cases h2 : s > t
    · rw [s2 h2]
      have hnew : newB h s0 (k == al) false s = true := by
        rw [nb]
        cases h with
        | false => rfl
        | true => have := hy rfl; rw [decide_eq_true (p := s > s0) (by omega)]; rfl
      rw [v1 hnew]
      refine ⟨by simp only [hkb], (fun h => by cases h), (fun h => by cases h), fun _ => ⟨?_, by omega⟩⟩
      simp only
      cases h with
      | false => have := hz rfl; omega
      | true => have := hy rfl; omega
    · rw [s3 (by omega)]
      cases h with
      | false => have := hn rfl; omega
      | true =>
        obtain ⟨e1, e2⟩ := hy rfl
        refine ⟨?_, (fun h => by cases h), (fun h => by cases h), fun _ => ⟨by simp only; omega, by omega⟩⟩
        have es : s = s0 := by omega
        show (!hearV v true s0 (k == al) false s) = (b || (k == fo))
        rw [← hv, hkb]
        unfold hearV
        rw [nb, decide_eq_false (p := s > s0) (by omega), beq_iff_eq.2 es]
        cases (k == al) <;> cases v <;> rfl
theorem flag_say {k s c : Int} {j : Int} {v h : Bool} {s0 : Int} {q : Int × Bool} (H : LvO v h s0 q) (hk : k = 5 ∨ k = 4) (hs : 0 ≤ s) :
    LvO (hearV v h s0 (k == 4) true s) true (mxI s0 s) (say1 5 4 j [.i k, .i s, .i j, .i c] q) := by
  obtain ⟨t, b⟩ := q
  obtain ⟨hv, hz, hn, hy⟩ := H
  simp only at hv hn hy
  have hm := mx_spec s0 s
  have hc : ¬ (k ≠ (5 : Int) ∧ k ≠ (4 : Int)) := fun h => hk.elim h.1 h.2
  have cond : ∀ {x}, (ix [D.i k, .i s, .i j, .i c] 0 ≠ (5 : Int) ∧ ix [D.i k, .i s, .i j, .i c] 0 ≠ (4 : Int)) ∨ ix [D.i k, .i s, .i j, .i c] 2 ≠ j ∨ ix [D.i k, .i s, .i j, .i c] 1 < x ↔ s < x := fun {x} =>
    ⟨fun h => h.elim (fun h => absurd h hc) fun h => h.elim (fun h => absurd rfl h) id, fun h => .inr (.inr h)⟩
  have s1 : s < t → say1 (5 : Int) (4 : Int) j [.i k, .i s, .i j, .i c] (t, b) = (t, b) := fun h => if_pos (cond.2 h)
  have s2 : s > t → say1 (5 : Int) (4 : Int) j [.i k, .i s, .i j, .i c] (t, b) = (s, (k == 4)) := fun h => (if_neg (fun h' => by have := cond.1 h'; simp only at this; omega)).trans (if_pos h)
  have s3 : s = t → say1 (5 : Int) (4 : Int) j [.i k, .i s, .i j, .i c] (t, b) = (t, b || (k == 4)) := fun h => (if_neg (fun h' => by have := cond.1 h'; simp only at this; omega)).trans (if_neg (by show ¬ s > t; omega))
  have v1 : newB h s0 (k == 4) true s = true → hearV v h s0 (k == 4) true s = (k == 4) := fun h => if_pos h
  have v2 : newB h s0 (k == 4) true s = false → hearV v h s0 (k == 4) true s = v := fun h => if_neg (by rw [h]; exact Bool.false_ne_true)
  have nb : newB h s0 (k == 4) true s = (!h || (decide (s > s0) || (s == s0 && (k == 4) == true))) := rfl
  by_cases h1 : s < t
  · rw [s1 h1]
    cases h with
    | false => have := hn rfl; omega
    | true =>
      obtain ⟨e1, e2⟩ := hy rfl
      rw [v2 (by rw [nb, decide_eq_false (p := s > s0) (by omega), beq_eq_false_iff_ne.2 (show s ≠ s0 by omega)]; rfl)]
      exact ⟨hv, (fun h => by cases h), (fun h => by cases h), fun _ => ⟨by simp only; omega, by omega⟩⟩
  · by_cases h2 : s > t
    · rw [s2 h2]
      have hnew : newB h s0 (k == 4) true s = true := by
        rw [nb]
        cases h with
        | false => rfl
        | true => have := hy rfl; rw [decide_eq_true (p := s > s0) (by omega)]; rfl
      rw [v1 hnew]
      refine ⟨rfl, (fun h => by cases h), (fun h => by cases h), fun _ => ⟨?_, by omega⟩⟩
      simp only
      cases h with
      | false => have := hz rfl; omega
      | true => have := hy rfl; omega
    · rw [s3 (by omega)]
      cases h with
      | false => have := hn rfl; omega
      | true =>
        obtain ⟨e1, e2⟩ := hy rfl
        refine ⟨?_, (fun h => by cases h), (fun h => by cases h), fun _ => ⟨by simp only; omega, by omega⟩⟩
        have es : s = s0 := by omega
        show hearV v true s0 (k == 4) true s = (b || (k == 4))
        rw [← hv]
        unfold hearV
        rw [nb, decide_eq_false (p := s > s0) (by omega), beq_iff_eq.2 es]
        cases (k == 4) <;> cases v <;> rfl
theorem bx_hearR (c : List D) (v bad : Bool) (s : Int) : bx (hearR c v bad s) 0 = hearV (bx c 0) (bx c 2) (ix c 1) v bad s ∧ bx (hearR c v bad s) 2 = true ∧ ix (hearR c v bad s) 1 = mxI (ix c 1) s := by
  refine ⟨?_, rfl, rfl⟩
  show (if newB (bx c 2) (ix c 1) v bad s then D.b v else c.getD 0 default).B = hearV (bx c 0) (bx c 2) (ix c 1) v bad s
  unfold hearV
  cases newB (bx c 2) (ix c 1) v bad s <;> rfl
theorem same_hear {p0 p5 k s p c : Int} {g : GS} {ev : List (List D)} (H : Same p0 g ev) (hr : (g.rd.length : Int) = p0) (hp : (g.po.length : Int) = p0) (he : evB p0 p5 k s p c = true) : Same p0 (hearE p0 p5 k s p c g) (ev ++ [[.i k, .i s, .i p, .i c]]) := by
  unfold hearE
  rw [if_pos he]
  have he := of_decide_eq_true he
  obtain ⟨hk, hs, hpp, hcc, hz, -⟩ := he
  constructor
  · rw [sayS_app]
    simp only [evOv, evOh, evOs]
    split
    · rename_i h
      exact stage_say (by decide) H.o h (by omega) hs.1
    · rename_i h
      rw [say_no (.inl ⟨fun e => h (.inl e), fun e => h (.inr e)⟩)]
      exact H.o
  · rw [sayS_app]
    simp only [evCv, evCh, evCs]
    split
    · rename_i h
      exact stage_say (by decide) H.c h (by omega) hs.1
    · rename_i h
      rw [say_no (.inl ⟨fun e => h (.inl e), fun e => h (.inr e)⟩)]
      exact H.c
  · intro j hj
    rw [sayS_app]
    simp only [rd_mod, mod_get]
    by_cases hjp : (j : Int) = p
    · rw [if_pos ⟨by omega, by omega⟩, show p.toNat = j by omega]
      unfold rdR
      split
      · rename_i h
        obtain ⟨e1, e2, e3⟩ := bx_hearR (g.rd.getD j []) (k == 4) true s
        rw [e1, e2, e3, ← hjp]
        exact flag_say (H.r j hj) h.symm hs.1
      · rename_i h
        rw [say_no (.inl ⟨fun e => h (.inr e), fun e => h (.inl e)⟩)]
        exact H.r j hj
    · rw [if_neg (fun h => hjp (by omega)), say_no (.inr (Ne.symm hjp))]
      exact H.r j hj
  · intro j hj
    rw [lastB_app]
    simp only [po_mod, mod_get]
    have L : lst1 j [D.i k, .i s, .i p, .i c] (lastB j ev) = if p = (j : Int) ∧ (k = 3 ∨ k = 4 ∨ k = 5 ∨ k = 8) then mxI (lastB j ev) s else lastB j ev := rfl
    rw [L]
    have H := H.p j hj
    by_cases hjp : (j : Int) = p
    · rw [if_pos ⟨by omega, by omega⟩, show p.toNat = j by omega]
      unfold poR
      by_cases h : k = 3 ∨ k = 4 ∨ k = 5 ∨ k = 8
      · rw [if_pos h, if_pos ⟨hjp.symm, h⟩]
        obtain ⟨e1, e2, e3⟩ := bx_hearR (g.po.getD j []) true true s
        rw [e2, e3]
        refine ⟨(fun h => by cases h), fun _ => ?_⟩
        have hm := mx_spec (ix (g.po.getD j []) 1) s
        have hm' := mx_spec (lastB j ev) s
        cases hb : bx (g.po.getD j []) 2 with
        | false => have := H.1 hb; omega
        | true => have := H.2 hb; omega
      · rw [if_neg h, if_neg (fun h' => h h'.2)]
        exact H
    · rw [if_neg (fun h => hjp (by omega)), if_neg (fun h => hjp h.1.symm)]
      exact H
noncomputable section
end
end Go.Proofs.Ytgmefblkmidglaa
set_option linter.unusedVariables false
namespace Go.Proofs.Ytgmefblkmidglaa
open Go.Lite
noncomputable section
def gsOf (ov os oh cv cs ch rd po ca : D) : GS := ⟨ov.B, os.I, oh.B, cv.B, cs.I, ch.B, rd.L, po.L, ca.L⟩
def canC (c : List D) : List D := [.b (bx c 0), .i (ix c 1), .i (ix c 2), .b (bx c 3), .b (bx c 4)]
structure InvW (p0 p1 p2 p3 p4 p5 q0 q1 q2 q3 q4 q5 nr np nc nd : Int) (g : GS) (ev da : List (List D)) : Prop where
  okg : okG p0 p1 p2 p3 p4 p5 nr np nc g.rd g.po g.ca
  os : tOK g.os
  cs : tOK g.cs
  q : q0 = p0 ∧ q1 = p1 ∧ q2 = p2 ∧ q3 = p3 ∧ q4 = p4 ∧ q5 = p5
  nd : nd = da.length
  da : da = g.ca
  can : ∀ j, j < g.ca.length → g.ca.getD j [] = canC (g.ca.getD j [])
  un : ∀ j, j < g.ca.length → bx (g.ca.getD j []) 0 = false → ix (g.ca.getD j []) 2 = -1 ∧ bx (g.ca.getD j []) 3 = false ∧ bx (g.ca.getD j []) 4 = false
  same : Same p0 g ev
  ev : ev.length ≤ 1000
end
end Go.Proofs.Ytgmefblkmidglaa
namespace Go.Proofs.Ytgmefblkmidglaa
open Go.Lite
set_option linter.unusedVariables false
theorem mx_in {a b lo hi : Int} (h1 : lo ≤ a ∧ a ≤ hi) (h2 : b ≤ hi) : lo ≤ mxI a b ∧ mxI a b ≤ hi := by
  have := mx_spec a b
  omega
theorem caR_parts {k p : Int} {c : List D} : bx (caR k p c) 0 = bx c 0 ∧ ix (caR k p c) 1 = ix c 1 ∧ (ix (caR k p c) 2 = ix c 2 ∨ ix (caR k p c) 2 = mxI (ix c 2) p) := by
  unfold caR
  split
  · unfold postR
    split
    · exact ⟨rfl, rfl, .inr rfl⟩
    · exact ⟨rfl, rfl, .inl rfl⟩
  · split
    · exact ⟨rfl, rfl, .inl rfl⟩
    · split
      · exact ⟨rfl, rfl, .inl rfl⟩
      · exact ⟨rfl, rfl, .inl rfl⟩
theorem lo_mod {l : List (List D)} {f : List D → List D} {q : Nat} (h : okLo l) (hf : 0 ≤ ix (f (l.getD q [])) 1 ∧ ix (f (l.getD q [])) 1 ≤ 100000) : okLo (modL f l q) := fun j hj => by
  have hl : (modL f l q).length = l.length := List.length_set ..
  rw [hl] at hj
  rw [mod_get]
  split
  · exact hf
  · exact h j hj
theorem len_mod (f : List D → List D) (l : List (List D)) (q : Nat) : (modL f l q).length = l.length := List.length_set ..
theorem lo_hear {c : List D} {v b : Bool} {s : Int} (h : 0 ≤ ix c 1 ∧ ix c 1 ≤ 100000) (hs : 0 ≤ s ∧ s ≤ 100000) : 0 ≤ ix (hearR c v b s) 1 ∧ ix (hearR c v b s) 1 ≤ 100000 := mx_in h hs.2
theorem rep_at {c : List D} {n j : Nat} (h : j < n) : (List.replicate n c).getD j [] = c := by
  rw [List.getD_eq_getElem?_getD, List.getElem?_replicate, if_pos h]
  rfl
theorem inv_new {p0 p1 p2 p3 p4 p5 : Int} (h : planG p0 p1 p2 p3 p4 p5 = true) :
    InvW p0 p1 p2 p3 p4 p5 p0 p1 p2 p3 p4 p5 p0 p0 p5 p5 ⟨false, 0, false, false, 0, false, List.replicate p0.toNat lo0, List.replicate p0.toNat lo0, List.replicate p5.toNat ca1⟩ [] (List.replicate p5.toNat ca1) := by
  have h := of_decide_eq_true h
  have lo : okLo (List.replicate p0.toNat lo0) := fun j hj => by
    rw [List.length_replicate] at hj
    rw [rep_at hj]
    exact ⟨by decide, by decide⟩
  constructor
  · refine ⟨h, ?_, ?_, lo, lo, ?_⟩
    · simp only [List.length_replicate]
      omega
    · simp only [List.length_replicate]
      omega
    · intro j hj
      rw [List.length_replicate] at hj
      rw [rep_at hj]
      exact ⟨⟨by decide, by decide⟩, by decide, by decide⟩
  · exact ⟨(by decide : (0 : Int) ≤ 0), (by decide : (0 : Int) ≤ 100000)⟩
  · exact ⟨(by decide : (0 : Int) ≤ 0), (by decide : (0 : Int) ≤ 100000)⟩
  · exact ⟨rfl, rfl, rfl, rfl, rfl, rfl⟩
  · rw [List.length_replicate]
    omega
  · rfl
  · intro j hj
    simp only [List.length_replicate] at hj
    rw [rep_at hj]
    rfl
  · intro j hj
    simp only [List.length_replicate] at hj
    rw [rep_at hj]
    exact fun _ => ⟨rfl, rfl, rfl⟩
  · constructor
    · exact ⟨rfl, fun _ => rfl, fun _ => rfl, fun h => by cases h⟩
    · exact ⟨rfl, fun _ => rfl, fun _ => rfl, fun h => by cases h⟩
    · intro j hj
      simp only
      rw [rep_at (by omega)]
      exact ⟨rfl, fun _ => rfl, fun _ => rfl, fun h => by cases h⟩
    · intro j hj
      simp only
      rw [rep_at (by omega)]
      exact ⟨fun _ => ⟨rfl, rfl⟩, fun h => by cases h⟩
  · exact Nat.zero_le _
end Go.Proofs.Ytgmefblkmidglaa
namespace Go.Proofs.Ytgmefblkmidglaa
open Go.Lite
set_option linter.unusedVariables false
noncomputable section
def startE (p0 p1 p2 p3 p4 p5 car t : Int) (g : GS) : GS := if validB p5 car t && (rulesF (ruleB p0 p1 p2 p3 p4 g.ov g.cv g.rd g.po g.ca car t) 0 8 []).isEmpty then ⟨g.ov, g.os, g.oh, g.cv, g.cs, g.ch, g.rd, g.po, startC g.ca car.toNat t⟩ else g
structure OkS (p0 p1 p2 p3 p4 p5 nr np nc : Int) (g : GS) : Prop where
  okg : okG p0 p1 p2 p3 p4 p5 nr np nc g.rd g.po g.ca
  oko : tOK g.os
  okc : tOK g.cs
  inv : Inv g
end
section
variable {p0 p1 p2 p3 p4 p5 nr np nc : Int} {g : GS}
theorem zero_mod {f : List D → List D} {l : List (List D)} {q : Nat} (h : zeroL l) (hf : bx (f (l.getD q [])) 2 = false → ix (f (l.getD q [])) 1 = 0) : zeroL (modL f l q) := fun j hj => by
  rw [mod_get] at hj ⊢
  split
  · rename_i h1
    rw [if_pos h1] at hj
    exact hf hj
  · rename_i h1
    rw [if_neg h1] at hj
    exact h j hj
theorem ok_hear (H : OkS p0 p1 p2 p3 p4 p5 nr np nc g) (k s p c : Int) : OkS p0 p1 p2 p3 p4 p5 nr np nc (hearE p0 p5 k s p c g) := by
  unfold hearE
  cases he : evB p0 p5 k s p c with
  | false => rw [if_neg Bool.false_ne_true]; exact H
  | true =>
    rw [if_pos rfl]
    obtain ⟨⟨hPl, ⟨hr, hpo, hc⟩, ⟨l1, l2, l3⟩, hlo1, hlo2, hoc⟩, hos, hcs, ⟨i1, i2, i3, i4⟩⟩ := H
    have he' := of_decide_eq_true he
    obtain ⟨hk, hsv, hpp, hcc, -, -⟩ := he'
    have hPl' := hPl
    unfold okPl at hPl'
    have hcl : c.toNat < g.ca.length := by omega
    have hpl : p.toNat < g.rd.length := by omega
    have hpl2 : p.toNat < g.po.length := by omega
    have tx : ∀ {t : Int} {b : Prop} [Decidable b], tOK t → tOK (if b then mxI t s else t) := fun {t b} _ h => by
      split
      · exact mx_in h hsv.2
      · exact h
    constructor
    · refine ⟨hPl, ?_, ?_, ?_, ?_, ?_⟩
      · simp only [rd_mod, po_mod, ca_mod, len_mod]
        exact ⟨hr, hpo, hc⟩
      · simp only [rd_mod, po_mod, ca_mod, len_mod]
        exact ⟨l1, l2, l3⟩
      · simp only [rd_mod]
        refine lo_mod hlo1 ?_
        unfold rdR
        split
        · exact lo_hear (hlo1 _ hpl) hsv
        · exact hlo1 _ hpl
      · simp only [po_mod]
        refine lo_mod hlo2 ?_
        unfold poR
        split
        · exact lo_hear (hlo2 _ hpl2) hsv
        · exact hlo2 _ hpl2
      · simp only [ca_mod]
        intro j hj
        rw [len_mod] at hj
        rw [mod_get]
        split
        · obtain ⟨-, c1, c2⟩ := @caR_parts k p (g.ca.getD c.toNat [])
          obtain ⟨o1, o2, o3⟩ := hoc c.toNat hcl
          rw [c1]
          refine ⟨o1, ?_⟩
          rcases c2 with c2 | c2
          · rw [c2]; exact ⟨o2, o3⟩
          · rw [c2]; exact mx_in ⟨o2, o3⟩ (by omega)
        · exact hoc j hj
    · exact tx (b := k = 1 ∨ k = 2) hos
    · exact tx (b := k = 6 ∨ k = 7) hcs
    · constructor
      · intro h
        simp only [evOh, evOs] at h ⊢
        by_cases hb : k = 1 ∨ k = 2
        · rw [if_pos hb] at h; cases h
        · rw [if_neg hb] at h ⊢; exact i1 h
      · intro h
        simp only [evCh, evCs] at h ⊢
        by_cases hb : k = 6 ∨ k = 7
        · rw [if_pos hb] at h; cases h
        · rw [if_neg hb] at h ⊢; exact i2 h
      · simp only [rd_mod]
        refine zero_mod i3 ?_
        unfold rdR
        split
        · intro h; cases h
        · exact i3 _
      · simp only [po_mod]
        refine zero_mod i4 ?_
        unfold poR
        split
        · intro h; cases h
        · exact i4 _
theorem ok_start (H : OkS p0 p1 p2 p3 p4 p5 nr np nc g) (car t : Int) : OkS p0 p1 p2 p3 p4 p5 nr np nc (startE p0 p1 p2 p3 p4 p5 car t g) := by
  unfold startE
  split
  · rename_i h
    rw [Bool.and_eq_true] at h
    have hv := of_decide_eq_true h.1
    obtain ⟨⟨hPl, ⟨hr, hpo, hc⟩, ⟨l1, l2, l3⟩, hlo1, hlo2, hoc⟩, hos, hcs, ⟨i1, i2, i3, i4⟩⟩ := H
    refine ⟨⟨hPl, ?_, ?_, hlo1, hlo2, ?_⟩, hos, hcs, ⟨i1, i2, i3, i4⟩⟩
    · simp only [startC, List.length_set]
      exact ⟨hr, hpo, hc⟩
    · simp only [startC, List.length_set]
      exact ⟨l1, l2, l3⟩
    · intro j hj
      simp only [startC, List.length_set] at hj ⊢
      rw [List.getD_eq_getElem?_getD, List.getElem?_set]
      by_cases e : car.toNat = j
      · rw [if_pos e, if_pos (by omega)]
        exact ⟨hv.2, (hoc car.toNat (by omega)).2⟩
      · rw [if_neg e, ← List.getD_eq_getElem?_getD]
        exact hoc j hj
  · exact H
theorem ok_new (h : planG p0 p1 p2 p3 p4 p5 = true) : OkS p0 p1 p2 p3 p4 p5 p0 p0 p5 ⟨false, 0, false, false, 0, false, List.replicate p0.toNat lo0, List.replicate p0.toNat lo0, List.replicate p5.toNat ca1⟩ := by
  obtain ⟨hG, hos, hcs, -⟩ := inv_new h
  have z : zeroL (List.replicate p0.toNat lo0) := fun j hj => by
    by_cases hl : j < p0.toNat
    · rw [rep_at hl]
      rfl
    · rw [List.getD_eq_getElem?_getD, List.getElem?_eq_none (by rw [List.length_replicate]; omega)]
      rfl
  exact ⟨hG, hos, hcs, ⟨fun _ => rfl, fun _ => rfl, z, z⟩⟩
end
end Go.Proofs.Ytgmefblkmidglaa
set_option linter.unusedVariables false
namespace Go.Proofs.Ytgmefblkmidglaa
open Go.Lite
noncomputable section
structure PairW (p0 p1 p2 p3 p4 p5 nr np nc : Int) (A : GS) (q0 q1 q2 q3 q4 q5 mr mp mc : Int) (B : GS) : Prop where
  a : OkS p0 p1 p2 p3 p4 p5 nr np nc A
  b : OkS q0 q1 q2 q3 q4 q5 mr mp mc B
  q : q0 = p0 ∧ q1 = p1 ∧ q2 = p2 ∧ q3 = p3 ∧ q4 = p4 ∧ q5 = p5
def G38x (ds : List D) : T (List D) := match ds with
  | [k, s, p, c, p0, p1, p2, p3, p4, p5, ov, os, oh, cv, cs, ch, nr, np, nc, rd, po, ca] => .need (yes (OkS p0.I p1.I p2.I p3.I p4.I p5.I nr.I np.I nc.I (gsOf ov os oh cv cs ch rd po ca))) (.leaf [.i (if evB p0.I p5.I k.I s.I p.I c.I then 0 else 2), .i p0.I, .i p1.I, .i p2.I, .i p3.I, .i p4.I, .i p5.I, .b (hearE p0.I p5.I k.I s.I p.I c.I (gsOf ov os oh cv cs ch rd po ca)).ov, .i (hearE p0.I p5.I k.I s.I p.I c.I (gsOf ov os oh cv cs ch rd po ca)).os, .b (hearE p0.I p5.I k.I s.I p.I c.I (gsOf ov os oh cv cs ch rd po ca)).oh, .b (hearE p0.I p5.I k.I s.I p.I c.I (gsOf ov os oh cv cs ch rd po ca)).cv, .i (hearE p0.I p5.I k.I s.I p.I c.I (gsOf ov os oh cv cs ch rd po ca)).cs, .b (hearE p0.I p5.I k.I s.I p.I c.I (gsOf ov os oh cv cs ch rd po ca)).ch, .i nr.I, .i np.I, .i nc.I, .l (hearE p0.I p5.I k.I s.I p.I c.I (gsOf ov os oh cv cs ch rd po ca)).rd, .l (hearE p0.I p5.I k.I s.I p.I c.I (gsOf ov os oh cv cs ch rd po ca)).po, .l (hearE p0.I p5.I k.I s.I p.I c.I (gsOf ov os oh cv cs ch rd po ca)).ca])
  | _ => .fail
def G39x (ds : List D) : T (List D) := match ds with
  | [car, t, p0, p1, p2, p3, p4, p5, ov, os, oh, cv, cs, ch, nr, np, nc, rd, po, ca] => .need (yes (OkS p0.I p1.I p2.I p3.I p4.I p5.I nr.I np.I nc.I (gsOf ov os oh cv cs ch rd po ca))) (.leaf [.i (if validB p5.I car.I t.I then (if (rulesF (ruleB p0.I p1.I p2.I p3.I p4.I ov.B cv.B rd.L po.L ca.L car.I t.I) 0 8 []).isEmpty then 0 else 7) else 2), .i p0.I, .i p1.I, .i p2.I, .i p3.I, .i p4.I, .i p5.I, .b ov.B, .i os.I, .b oh.B, .b cv.B, .i cs.I, .b ch.B, .i nr.I, .i np.I, .i nc.I, .l rd.L, .l po.L, .l (startE p0.I p1.I p2.I p3.I p4.I p5.I car.I t.I (gsOf ov os oh cv cs ch rd po ca)).ca])
  | _ => .fail
def G40x (ds : List D) : T (List D) := match ds with
  | [car, t, p0, p1, p2, p3, p4, p5, ov, os, oh, cv, cs, ch, nr, np, nc, rd, po, ca] => .need (yes (OkS p0.I p1.I p2.I p3.I p4.I p5.I nr.I np.I nc.I (gsOf ov os oh cv cs ch rd po ca))) (.ite (validB p5.I car.I t.I && !(rulesF (ruleB p0.I p1.I p2.I p3.I p4.I ov.B cv.B rd.L po.L ca.L car.I t.I) 0 8 []).isEmpty) (.leaf [.i 1, .i (rulesF (ruleB p0.I p1.I p2.I p3.I p4.I ov.B cv.B rd.L po.L ca.L car.I t.I) 0 8 []).length, .i 0, .i p0.I, .i p1.I, .i p2.I, .i p3.I, .i p4.I, .i p5.I, .b ov.B, .i os.I, .b oh.B, .b cv.B, .i cs.I, .b ch.B, .i nr.I, .i np.I, .i nc.I, .l rd.L, .l po.L, .l ca.L, .l (rulesF (ruleB p0.I p1.I p2.I p3.I p4.I ov.B cv.B rd.L po.L ca.L car.I t.I) 0 8 [])]) (.leaf [.i 0, .i (if validB p5.I car.I t.I then 0 else 2), .i p0.I, .i p1.I, .i p2.I, .i p3.I, .i p4.I, .i p5.I, .b ov.B, .i os.I, .b oh.B, .b cv.B, .i cs.I, .b ch.B, .i nr.I, .i np.I, .i nc.I, .l rd.L, .l po.L, .l ca.L]))
  | _ => .fail
end
end Go.Proofs.Ytgmefblkmidglaa
namespace Go.Proofs.Ytgmefblkmidglaa
open Go.Lite
noncomputable def sp45 : SpL := []
noncomputable def lp45 : LpL := []
noncomputable def sw45 : SwL := []
noncomputable def tab45 : Tab := mkTab sp45 lp45 sw45
noncomputable def sp47 : SpL := []
noncomputable def lp47 : LpL := []
noncomputable def sw47 : SwL := []
noncomputable def tab47 : Tab := mkTab sp47 lp47 sw47
noncomputable def sp61 : SpL := []
noncomputable def lp61 : LpL := []
noncomputable def sw61 : SwL := []
noncomputable def tab61 : Tab := mkTab sp61 lp61 sw61
noncomputable def sp62 : SpL := [(45, mkF s45 G45)]
noncomputable def lp62 : LpL := []
noncomputable def sw62 : SwL := []
noncomputable def tab62 : Tab := mkTab sp62 lp62 sw62
noncomputable def sp85 : SpL := []
noncomputable def lp85 : LpL := []
noncomputable def sw85 : SwL := []
noncomputable def tab85 : Tab := mkTab sp85 lp85 sw85
noncomputable def sp86 : SpL := []
noncomputable def lp86 : LpL := []
noncomputable def sw86 : SwL := []
noncomputable def tab86 : Tab := mkTab sp86 lp86 sw86
noncomputable def sp88 : SpL := []
noncomputable def lp88 : LpL := []
noncomputable def sw88 : SwL := []
noncomputable def tab88 : Tab := mkTab sp88 lp88 sw88
noncomputable def sp89 : SpL := []
noncomputable def lp89 : LpL := []
noncomputable def sw89 : SwL := []
noncomputable def tab89 : Tab := mkTab sp89 lp89 sw89
noncomputable def sp90 : SpL := []
noncomputable def lp90 : LpL := []
noncomputable def sw90 : SwL := []
noncomputable def tab90 : Tab := mkTab sp90 lp90 sw90
noncomputable def sp92 : SpL := []
noncomputable def lp92 : LpL := []
noncomputable def sw92 : SwL := []
noncomputable def tab92 : Tab := mkTab sp92 lp92 sw92
noncomputable def sp1098 : SpL := [(85, mkF s85 G85)]
noncomputable def lp1098 : LpL := [(2, mkL l1098_2 G1098_2)]
noncomputable def sw1098 : SwL := []
noncomputable def tab1098 : Tab := mkTab sp1098 lp1098 sw1098
noncomputable def sp2098 : SpL := [(86, mkF s86 G86)]
noncomputable def lp2098 : LpL := [(2, mkL l2098_2 G2098_2)]
noncomputable def sw2098 : SwL := []
noncomputable def tab2098 : Tab := mkTab sp2098 lp2098 sw2098
noncomputable def sp1084 : SpL := [(98, mkF s1098 G1098), (85, mkF s85 G85)]
noncomputable def lp1084 : LpL := []
noncomputable def sw1084 : SwL := []
noncomputable def tab1084 : Tab := mkTab sp1084 lp1084 sw1084
noncomputable def sp2084 : SpL := [(98, mkF s2098 G2098), (86, mkF s86 G86)]
noncomputable def lp2084 : LpL := []
noncomputable def sw2084 : SwL := []
noncomputable def tab2084 : Tab := mkTab sp2084 lp2084 sw2084
noncomputable def sp1099 : SpL := [(88, mkF s88 G88)]
noncomputable def lp1099 : LpL := []
noncomputable def sw1099 : SwL := []
noncomputable def tab1099 : Tab := mkTab sp1099 lp1099 sw1099
noncomputable def sp2099 : SpL := [(89, mkF s89 G89)]
noncomputable def lp2099 : LpL := []
noncomputable def sw2099 : SwL := []
noncomputable def tab2099 : Tab := mkTab sp2099 lp2099 sw2099
noncomputable def sp3099 : SpL := [(90, mkF s90 G90)]
noncomputable def lp3099 : LpL := []
noncomputable def sw3099 : SwL := []
noncomputable def tab3099 : Tab := mkTab sp3099 lp3099 sw3099
noncomputable def sp1100 : SpL := [(92, mkF s92 G92)]
noncomputable def lp1100 : LpL := [(2, mkL l1100_2 G1100_2)]
noncomputable def sw1100 : SwL := []
noncomputable def tab1100 : Tab := mkTab sp1100 lp1100 sw1100
noncomputable def sp2100 : SpL := [(99, mkF s1099 G1099), (88, mkF s88 G88)]
noncomputable def lp2100 : LpL := [(2, mkL l2100_2 G2100_2)]
noncomputable def sw2100 : SwL := []
noncomputable def tab2100 : Tab := mkTab sp2100 lp2100 sw2100
noncomputable def sp3100 : SpL := [(99, mkF s2099 G2099), (89, mkF s89 G89)]
noncomputable def lp3100 : LpL := [(2, mkL l3100_2 G3100_2)]
noncomputable def sw3100 : SwL := []
noncomputable def tab3100 : Tab := mkTab sp3100 lp3100 sw3100
noncomputable def sp4100 : SpL := [(99, mkF s3099 G3099), (90, mkF s90 G90)]
noncomputable def lp4100 : LpL := [(2, mkL l4100_2 G4100_2)]
noncomputable def sw4100 : SwL := []
noncomputable def tab4100 : Tab := mkTab sp4100 lp4100 sw4100
noncomputable def sp1091 : SpL := [(100, mkF s1100 G1100), (92, mkF s92 G92)]
noncomputable def lp1091 : LpL := []
noncomputable def sw1091 : SwL := []
noncomputable def tab1091 : Tab := mkTab sp1091 lp1091 sw1091
noncomputable def sp2091 : SpL := [(100, mkF s2100 G2100), (99, mkF s1099 G1099), (88, mkF s88 G88)]
noncomputable def lp2091 : LpL := []
noncomputable def sw2091 : SwL := []
noncomputable def tab2091 : Tab := mkTab sp2091 lp2091 sw2091
noncomputable def sp3091 : SpL := [(100, mkF s3100 G3100), (99, mkF s2099 G2099), (89, mkF s89 G89)]
noncomputable def lp3091 : LpL := []
noncomputable def sw3091 : SwL := []
noncomputable def tab3091 : Tab := mkTab sp3091 lp3091 sw3091
noncomputable def sp4091 : SpL := [(100, mkF s4100 G4100), (99, mkF s3099 G3099), (90, mkF s90 G90)]
noncomputable def lp4091 : LpL := []
noncomputable def sw4091 : SwL := []
noncomputable def tab4091 : Tab := mkTab sp4091 lp4091 sw4091
noncomputable def sp1087 : SpL := [(91, mkF s2091 G2091), (88, mkF s88 G88), (99, mkF s1099 G1099)]
noncomputable def lp1087 : LpL := []
noncomputable def sw1087 : SwL := []
noncomputable def tab1087 : Tab := mkTab sp1087 lp1087 sw1087
noncomputable def sp2087 : SpL := [(91, mkF s3091 G3091), (89, mkF s89 G89), (99, mkF s2099 G2099)]
noncomputable def lp2087 : LpL := []
noncomputable def sw2087 : SwL := []
noncomputable def tab2087 : Tab := mkTab sp2087 lp2087 sw2087
noncomputable def sp3087 : SpL := [(91, mkF s4091 G4091), (90, mkF s90 G90), (99, mkF s3099 G3099)]
noncomputable def lp3087 : LpL := []
noncomputable def sw3087 : SwL := []
noncomputable def tab3087 : Tab := mkTab sp3087 lp3087 sw3087
noncomputable def sp65 : SpL := []
noncomputable def lp65 : LpL := []
noncomputable def sw65 : SwL := []
noncomputable def tab65 : Tab := mkTab sp65 lp65 sw65
noncomputable def sp66 : SpL := [(84, mkF s1084 G1084)]
noncomputable def lp66 : LpL := []
noncomputable def sw66 : SwL := []
noncomputable def tab66 : Tab := mkTab sp66 lp66 sw66
noncomputable def sp67 : SpL := [(84, mkF s2084 G2084), (86, mkF s86 G86)]
noncomputable def lp67 : LpL := []
noncomputable def sw67 : SwL := []
noncomputable def tab67 : Tab := mkTab sp67 lp67 sw67
noncomputable def sp68 : SpL := []
noncomputable def lp68 : LpL := []
noncomputable def sw68 : SwL := []
noncomputable def tab68 : Tab := mkTab sp68 lp68 sw68
noncomputable def sp69 : SpL := [(87, mkF s1087 G1087), (88, mkF s88 G88)]
noncomputable def lp69 : LpL := []
noncomputable def sw69 : SwL := []
noncomputable def tab69 : Tab := mkTab sp69 lp69 sw69
noncomputable def sp70 : SpL := [(87, mkF s2087 G2087), (89, mkF s89 G89)]
noncomputable def lp70 : LpL := []
noncomputable def sw70 : SwL := []
noncomputable def tab70 : Tab := mkTab sp70 lp70 sw70
noncomputable def sp71 : SpL := [(87, mkF s3087 G3087), (90, mkF s90 G90)]
noncomputable def lp71 : LpL := []
noncomputable def sw71 : SwL := []
noncomputable def tab71 : Tab := mkTab sp71 lp71 sw71
noncomputable def sp72 : SpL := [(91, mkF s1091 G1091)]
noncomputable def lp72 : LpL := []
noncomputable def sw72 : SwL := []
noncomputable def tab72 : Tab := mkTab sp72 lp72 sw72
end Go.Proofs.Ytgmefblkmidglaa
namespace Go.Proofs.Ytgmefblkmidglaa
open Go.Lite
def mkFWs : List (SigW × (List D → T (List D))) → List SV → SHeap → T (SV × SHeap)
  | [], _, _ => .fail
  | p :: r, args, h => match fitsVs p.1.args args, fitsH p.1.hin h with
    | some a, some b => (p.2 (a ++ b)).map (headR p.1.res)
    | _, _ => mkFWs r args h
def ManyW (C : Cfg) (n : Nat) (f : FuncId) : List (SigW × (List D → T (List D))) → Prop
  | [] => True
  | p :: r => FnOKW C n f (mkFW p.1 p.2) ∧ ManyW C n f r
theorem many_ok {C : Cfg} {n : Nat} {f : FuncId} : ∀ {l : List (SigW × (List D → T (List D)))}, ManyW C n f l → FnOKW C n f (mkFWs l)
  | [], _ => fun args h v hb hv => by cases hv
  | p :: r, hl => fun args h v hb hv avs h0 h1 h2 S H s => by
    unfold mkFWs at hv
    split at hv
    · rename_i a b e1 e2
      exact hl.1 args h v hb (by unfold mkFW; rw [e1, e2]; exact hv) avs h0 h1 h2 S H s
    · exact many_ok hl.2 args h v hb hv avs h0 h1 h2 S H s
end Go.Proofs.Ytgmefblkmidglaa
namespace Go.Proofs.Ytgmefblkmidglaa
open Go.Lite
noncomputable def sp1064 : SpL := []
noncomputable def lp1064 : LpL := []
noncomputable def sw1064 : SwL := []
noncomputable def tab1064 : Tab := mkTab sp1064 lp1064 sw1064
noncomputable def sp2064 : SpL := []
noncomputable def lp2064 : LpL := []
noncomputable def sw2064 : SwL := []
noncomputable def tab2064 : Tab := mkTab sp2064 lp2064 sw2064
noncomputable def sp3064 : SpL := []
noncomputable def lp3064 : LpL := []
noncomputable def sw3064 : SwL := []
noncomputable def tab3064 : Tab := mkTab sp3064 lp3064 sw3064
noncomputable def sp63 : SpL := []
noncomputable def lp63 : LpL := []
noncomputable def sw63 : SwL := [(64, mkFWs [(s3064, G3064)])]
noncomputable def tab63 : Tab := mkTab sp63 lp63 sw63
noncomputable def sp38 : SpL := [(61, mkF s61 G61), (62, mkF s62 G62)]
noncomputable def lp38 : LpL := []
noncomputable def sw38 : SwL := [(63, mkFW s63 G63), (64, mkFWs [(s1064, G1064), (s2064, G2064), (s3064, G3064)])]
noncomputable def tab38 : Tab := mkTab sp38 lp38 sw38
noncomputable def sp40 : SpL := [(61, mkF s61 G61), (45, mkF s45 G45), (65, mkF s65 G65), (66, mkF s66 G66), (67, mkF s67 G67), (68, mkF s68 G68), (69, mkF s69 G69), (70, mkF s70 G70), (71, mkF s71 G71), (72, mkF s72 G72)]
noncomputable def lp40 : LpL := [(8, mkLK 4 l40_8 G40_8)]
noncomputable def sw40 : SwL := []
noncomputable def tab40 : Tab := mkTab sp40 lp40 sw40
noncomputable def sp39 : SpL := []
noncomputable def lp39 : LpL := []
noncomputable def sw39 : SwL := [(40, mkFW s40 G40)]
noncomputable def tab39 : Tab := mkTab sp39 lp39 sw39
noncomputable def sp42 : SpL := [(61, mkF s61 G61), (45, mkF s45 G45)]
noncomputable def lp42 : LpL := []
noncomputable def sw42 : SwL := []
noncomputable def tab42 : Tab := mkTab sp42 lp42 sw42
end Go.Proofs.Ytgmefblkmidglaa
namespace Go.Proofs.Ytgmefblkmidglaa
open Go.Lite
set_option linter.unusedVariables false
set_option maxRecDepth 100000
theorem t38 (a b c d e f g h i j k l m n o p q r s t u v : D) : (fnTW C tab38 38 s38 [a, b, c, d, e, f, g, h, i, j, k, l, m, n, o, p, q, r, s, t, u, v]).run =
  T.run (T.need (decide (q.I.toNat ≤ t.L.length)) (T.need (decide (r.I.toNat ≤ u.L.length)) (T.need (decide (s.I.toNat ≤ v.L.length)) (T.ite (!decide (0 < List.length (List.take s.I.toNat v.L))) (T.leaf [D.i 1, D.i e.I, D.i f.I, D.i g.I, D.i h.I, D.i i.I, D.i j.I, D.b k.B, D.i l.I, D.b m.B, D.b n.B, D.i o.I, D.b p.B, D.i (q.I.toNat : Int), D.i (r.I.toNat : Int), D.i (s.I.toNat : Int), D.l t.L, D.l u.L, D.l v.L]) (T.need (decide (q.I.toNat ≤ t.L.length)) (T.need (decide (r.I.toNat ≤ u.L.length)) (T.need (decide (s.I.toNat ≤ v.L.length)) (T.need (yes (okPl e.I f.I g.I h.I i.I j.I)) (T.ite (!evB e.I j.I a.I b.I c.I d.I) (T.leaf [D.i 2, D.i e.I, D.i f.I, D.i g.I, D.i h.I, D.i i.I, D.i j.I, D.b k.B, D.i l.I, D.b m.B, D.b n.B, D.i o.I, D.b p.B, D.i (q.I.toNat : Int), D.i (r.I.toNat : Int), D.i (s.I.toNat : Int), D.l t.L, D.l u.L, D.l v.L]) (T.need (decide ((0 : Int) ≤ d.I ∧ d.I < (s.I.toNat : Int))) (T.ite (a.I == (1 : Int)) (T.ite (a.I == (1 : Int)) (T.need (yes ((q.I.toNat : Int) = (t.L.length : Int) ∧ (r.I.toNat : Int) = (u.L.length : Int) ∧ (s.I.toNat : Int) = (v.L.length : Int))) (T.leaf [D.i 0, D.i e.I, D.i f.I, D.i g.I, D.i h.I, D.i i.I, D.i j.I, D.b (hearV k.B m.B l.I (a.I == (1 : Int)) false b.I), D.i (mxI l.I b.I), D.b true, D.b n.B, D.i o.I, D.b p.B, D.i (↑(Int.toNat (q.I.toNat : Int)) : Int), D.i (↑(Int.toNat (r.I.toNat : Int)) : Int), D.i (↑(Int.toNat (s.I.toNat : Int)) : Int), D.l t.L, D.l u.L, D.l v.L])) (T.ite (a.I == (6 : Int)) (T.ite (a.I == (6 : Int)) (T.need (yes ((q.I.toNat : Int) = (t.L.length : Int) ∧ (r.I.toNat : Int) = (u.L.length : Int) ∧ (s.I.toNat : Int) = (v.L.length : Int))) (T.leaf [D.i 0, D.i e.I, D.i f.I, D.i g.I, D.i h.I, D.i i.I, D.i j.I, D.b k.B, D.i l.I, D.b m.B, D.b (hearV n.B p.B o.I (a.I == (6 : Int)) false b.I), D.i (mxI o.I b.I), D.b true, D.i (↑(Int.toNat (q.I.toNat : Int)) : Int), D.i (↑(Int.toNat (r.I.toNat : Int)) : Int), D.i (↑(Int.toNat (s.I.toNat : Int)) : Int), D.l t.L, D.l u.L, D.l v.L])) (T.ite (a.I == (3 : Int)) (T.need (yes (((q.I.toNat : Int) = (t.L.length : Int) ∧ (r.I.toNat : Int) = (u.L.length : Int) ∧ (s.I.toNat : Int) = (v.L.length : Int)) ∧ (0 : Int) ≤ c.I ∧ c.I < (u.L.length : Int))) (T.leaf [D.i 0, D.i e.I, D.i f.I, D.i g.I, D.i h.I, D.i i.I, D.i j.I, D.b k.B, D.i l.I, D.b m.B, D.b n.B, D.i o.I, D.b p.B, D.i (↑(Int.toNat (q.I.toNat : Int)) : Int), D.i (↑(Int.toNat (r.I.toNat : Int)) : Int), D.i (↑(Int.toNat (s.I.toNat : Int)) : Int), D.l t.L, D.l (hearL u.L c.I.toNat true true b.I), D.l v.L])) (T.ite (a.I == (4 : Int)) (T.ite (a.I == (4 : Int)) (T.need (decide ((0 : Int) ≤ c.I ∧ c.I < (q.I.toNat : Int))) (T.need (yes ((0 : Int) ≤ (c.I.toNat : Int) ∧ (c.I.toNat : Int) < (t.L.length : Int))) (T.need (yes (((q.I.toNat : Int) = (↑(List.length (hearL t.L (Int.toNat (c.I.toNat : Int)) (a.I == (4 : Int)) true b.I)) : Int) ∧ (r.I.toNat : Int) = (u.L.length : Int) ∧ (s.I.toNat : Int) = (v.L.length : Int)) ∧ (0 : Int) ≤ c.I ∧ c.I < (u.L.length : Int))) (T.leaf [D.i 0, D.i e.I, D.i f.I, D.i g.I, D.i h.I, D.i i.I, D.i j.I, D.b k.B, D.i l.I, D.b m.B, D.b n.B, D.i o.I, D.b p.B, D.i (↑(Int.toNat (q.I.toNat : Int)) : Int), D.i (↑(Int.toNat (r.I.toNat : Int)) : Int), D.i (↑(Int.toNat (s.I.toNat : Int)) : Int), D.l (hearL t.L (Int.toNat (c.I.toNat : Int)) (a.I == (4 : Int)) true b.I), D.l (hearL u.L c.I.toNat true true b.I), D.l v.L])))) (T.ite (a.I == (8 : Int)) (T.need (decide (d.I.toNat < v.L.length)) (T.ite (D.B (List.getD (List.getD v.L d.I.toNat []) 0 default)) (T.need (decide (d.I.toNat < v.L.length)) (T.need (decide (d.I.toNat < v.L.length)) (T.need (yes (((q.I.toNat : Int) = (t.L.length : Int) ∧ (r.I.toNat : Int) = (u.L.length : Int) ∧ (s.I.toNat : Int) = (↑(List.length (List.set v.L d.I.toNat (updC (List.getD v.L d.I.toNat []) [D.i (if c.I > D.I (List.getD (List.getD v.L d.I.toNat []) (0 + 1 + 1) default) then c.I else D.I (List.getD (List.getD v.L d.I.toNat []) (0 + 1 + 1) default))] (0 + 2) 0 (List.length [K.bool, K.int IntKind.i64, K.int IntKind.i64, K.bool, K.bool])))) : Int)) ∧ (0 : Int) ≤ c.I ∧ c.I < (u.L.length : Int))) (T.leaf [D.i 0, D.i e.I, D.i f.I, D.i g.I, D.i h.I, D.i i.I, D.i j.I, D.b k.B, D.i l.I, D.b m.B, D.b n.B, D.i o.I, D.b p.B, D.i (↑(Int.toNat (q.I.toNat : Int)) : Int), D.i (↑(Int.toNat (r.I.toNat : Int)) : Int), D.i (↑(Int.toNat (s.I.toNat : Int)) : Int), D.l t.L, D.l (hearL u.L c.I.toNat true true b.I), D.l (List.set v.L d.I.toNat (updC (List.getD v.L d.I.toNat []) [D.i (if c.I > D.I (List.getD (List.getD v.L d.I.toNat []) (0 + 1 + 1) default) then c.I else D.I (List.getD (List.getD v.L d.I.toNat []) (0 + 1 + 1) default))] (0 + 2) 0 (List.length [K.bool, K.int IntKind.i64, K.int IntKind.i64, K.bool, K.bool])))])))) (T.need (yes (((q.I.toNat : Int) = (t.L.length : Int) ∧ (r.I.toNat : Int) = (u.L.length : Int) ∧ (s.I.toNat : Int) = (v.L.length : Int)) ∧ (0 : Int) ≤ c.I ∧ c.I < (u.L.length : Int))) (T.leaf [D.i 0, D.i e.I, D.i f.I, D.i g.I, D.i h.I, D.i i.I, D.i j.I, D.b k.B, D.i l.I, D.b m.B, D.b n.B, D.i o.I, D.b p.B, D.i (↑(Int.toNat (q.I.toNat : Int)) : Int), D.i (↑(Int.toNat (r.I.toNat : Int)) : Int), D.i (↑(Int.toNat (s.I.toNat : Int)) : Int), D.l t.L, D.l (hearL u.L c.I.toNat true true b.I), D.l v.L])))) (T.ite (a.I == (9 : Int)) (T.need (decide (d.I.toNat < v.L.length)) (T.ite (D.B (List.getD (List.getD v.L d.I.toNat []) (0 + 1 + 1 + 1) default)) (T.need (decide (d.I.toNat < v.L.length)) (T.leaf [D.i 0, D.i e.I, D.i f.I, D.i g.I, D.i h.I, D.i i.I, D.i j.I, D.b k.B, D.i l.I, D.b m.B, D.b n.B, D.i o.I, D.b p.B, D.i (q.I.toNat : Int), D.i (r.I.toNat : Int), D.i (s.I.toNat : Int), D.l t.L, D.l u.L, D.l (List.set v.L d.I.toNat (updC (List.getD v.L d.I.toNat []) [D.b true] (0 + 3) 0 (List.length [K.bool, K.int IntKind.i64, K.int IntKind.i64, K.bool, K.bool])))])) (T.need (decide (d.I.toNat < v.L.length)) (T.need (decide (d.I.toNat < v.L.length)) (T.leaf [D.i 0, D.i e.I, D.i f.I, D.i g.I, D.i h.I, D.i i.I, D.i j.I, D.b k.B, D.i l.I, D.b m.B, D.b n.B, D.i o.I, D.b p.B, D.i (q.I.toNat : Int), D.i (r.I.toNat : Int), D.i (s.I.toNat : Int), D.l t.L, D.l u.L, D.l (List.set v.L d.I.toNat (updC (List.getD v.L d.I.toNat []) [D.b (D.B (List.getD (List.getD v.L d.I.toNat []) 0 default))] (0 + 3) 0 (List.length [K.bool, K.int IntKind.i64, K.int IntKind.i64, K.bool, K.bool])))]))))) (T.ite (a.I == (10 : Int)) (T.need (decide (d.I.toNat < v.L.length)) (T.ite (D.B (List.getD (List.getD v.L d.I.toNat []) (0 + 1 + 1 + 1 + 1) default)) (T.need (decide (d.I.toNat < v.L.length)) (T.leaf [D.i 0, D.i e.I, D.i f.I, D.i g.I, D.i h.I, D.i i.I, D.i j.I, D.b k.B, D.i l.I, D.b m.B, D.b n.B, D.i o.I, D.b p.B, D.i (q.I.toNat : Int), D.i (r.I.toNat : Int), D.i (s.I.toNat : Int), D.l t.L, D.l u.L, D.l (List.set v.L d.I.toNat (updC (List.getD v.L d.I.toNat []) [D.b true] (0 + 4) 0 (List.length [K.bool, K.int IntKind.i64, K.int IntKind.i64, K.bool, K.bool])))])) (T.need (decide (d.I.toNat < v.L.length)) (T.need (decide (d.I.toNat < v.L.length)) (T.leaf [D.i 0, D.i e.I, D.i f.I, D.i g.I, D.i h.I, D.i i.I, D.i j.I, D.b k.B, D.i l.I, D.b m.B, D.b n.B, D.i o.I, D.b p.B, D.i (q.I.toNat : Int), D.i (r.I.toNat : Int), D.i (s.I.toNat : Int), D.l t.L, D.l u.L, D.l (List.set v.L d.I.toNat (updC (List.getD v.L d.I.toNat []) [D.b (D.B (List.getD (List.getD v.L d.I.toNat []) 0 default))] (0 + 4) 0 (List.length [K.bool, K.int IntKind.i64, K.int IntKind.i64, K.bool, K.bool])))]))))) (T.leaf [D.i 0, D.i e.I, D.i f.I, D.i g.I, D.i h.I, D.i i.I, D.i j.I, D.b k.B, D.i l.I, D.b m.B, D.b n.B, D.i o.I, D.b p.B, D.i (q.I.toNat : Int), D.i (r.I.toNat : Int), D.i (s.I.toNat : Int), D.l t.L, D.l u.L, D.l v.L]))))) (T.ite (a.I == (5 : Int)) (T.need (decide ((0 : Int) ≤ c.I ∧ c.I < (q.I.toNat : Int))) (T.need (yes ((0 : Int) ≤ (c.I.toNat : Int) ∧ (c.I.toNat : Int) < (t.L.length : Int))) (T.need (yes (((q.I.toNat : Int) = (↑(List.length (hearL t.L (Int.toNat (c.I.toNat : Int)) (a.I == (4 : Int)) true b.I)) : Int) ∧ (r.I.toNat : Int) = (u.L.length : Int) ∧ (s.I.toNat : Int) = (v.L.length : Int)) ∧ (0 : Int) ≤ c.I ∧ c.I < (u.L.length : Int))) (T.leaf [D.i 0, D.i e.I, D.i f.I, D.i g.I, D.i h.I, D.i i.I, D.i j.I, D.b k.B, D.i l.I, D.b m.B, D.b n.B, D.i o.I, D.b p.B, D.i (↑(Int.toNat (q.I.toNat : Int)) : Int), D.i (↑(Int.toNat (r.I.toNat : Int)) : Int), D.i (↑(Int.toNat (s.I.toNat : Int)) : Int), D.l (hearL t.L (Int.toNat (c.I.toNat : Int)) (a.I == (4 : Int)) true b.I), D.l (hearL u.L c.I.toNat true true b.I), D.l v.L])))) (T.ite (a.I == (8 : Int)) (T.need (decide (d.I.toNat < v.L.length)) (T.ite (D.B (List.getD (List.getD v.L d.I.toNat []) 0 default)) (T.need (decide (d.I.toNat < v.L.length)) (T.need (decide (d.I.toNat < v.L.length)) (T.need (yes (((q.I.toNat : Int) = (t.L.length : Int) ∧ (r.I.toNat : Int) = (u.L.length : Int) ∧ (s.I.toNat : Int) = (↑(List.length (List.set v.L d.I.toNat (updC (List.getD v.L d.I.toNat []) [D.i (if c.I > D.I (List.getD (List.getD v.L d.I.toNat []) (0 + 1 + 1) default) then c.I else D.I (List.getD (List.getD v.L d.I.toNat []) (0 + 1 + 1) default))] (0 + 2) 0 (List.length [K.bool, K.int IntKind.i64, K.int IntKind.i64, K.bool, K.bool])))) : Int)) ∧ (0 : Int) ≤ c.I ∧ c.I < (u.L.length : Int))) (T.leaf [D.i 0, D.i e.I, D.i f.I, D.i g.I, D.i h.I, D.i i.I, D.i j.I, D.b k.B, D.i l.I, D.b m.B, D.b n.B, D.i o.I, D.b p.B, D.i (↑(Int.toNat (q.I.toNat : Int)) : Int), D.i (↑(Int.toNat (r.I.toNat : Int)) : Int), D.i (↑(Int.toNat (s.I.toNat : Int)) : Int), D.l t.L, D.l (hearL u.L c.I.toNat true true b.I), D.l (List.set v.L d.I.toNat (updC (List.getD v.L d.I.toNat []) [D.i (if c.I > D.I (List.getD (List.getD v.L d.I.toNat []) (0 + 1 + 1) default) then c.I else D.I (List.getD (List.getD v.L d.I.toNat []) (0 + 1 + 1) default))] (0 + 2) 0 (List.length [K.bool, K.int IntKind.i64, K.int IntKind.i64, K.bool, K.bool])))])))) (T.need (yes (((q.I.toNat : Int) = (t.L.length : Int) ∧ (r.I.toNat : Int) = (u.L.length : Int) ∧ (s.I.toNat : Int) = (v.L.length : Int)) ∧ (0 : Int) ≤ c.I ∧ c.I < (u.L.length : Int))) (T.leaf [D.i 0, D.i e.I, D.i f.I, D.i g.I, D.i h.I, D.i i.I, D.i j.I, D.b k.B, D.i l.I, D.b m.B, D.b n.B, D.i o.I, D.b p.B, D.i (↑(Int.toNat (q.I.toNat : Int)) : Int), D.i (↑(Int.toNat (r.I.toNat : Int)) : Int), D.i (↑(Int.toNat (s.I.toNat : Int)) : Int), D.l t.L, D.l (hearL u.L c.I.toNat true true b.I), D.l v.L])))) (T.ite (a.I == (9 : Int)) (T.need (decide (d.I.toNat < v.L.length)) (T.ite (D.B (List.getD (List.getD v.L d.I.toNat []) (0 + 1 + 1 + 1) default)) (T.need (decide (d.I.toNat < v.L.length)) (T.leaf [D.i 0, D.i e.I, D.i f.I, D.i g.I, D.i h.I, D.i i.I, D.i j.I, D.b k.B, D.i l.I, D.b m.B, D.b n.B, D.i o.I, D.b p.B, D.i (q.I.toNat : Int), D.i (r.I.toNat : Int), D.i (s.I.toNat : Int), D.l t.L, D.l u.L, D.l (List.set v.L d.I.toNat (updC (List.getD v.L d.I.toNat []) [D.b true] (0 + 3) 0 (List.length [K.bool, K.int IntKind.i64, K.int IntKind.i64, K.bool, K.bool])))])) (T.need (decide (d.I.toNat < v.L.length)) (T.need (decide (d.I.toNat < v.L.length)) (T.leaf [D.i 0, D.i e.I, D.i f.I, D.i g.I, D.i h.I, D.i i.I, D.i j.I, D.b k.B, D.i l.I, D.b m.B, D.b n.B, D.i o.I, D.b p.B, D.i (q.I.toNat : Int), D.i (r.I.toNat : Int), D.i (s.I.toNat : Int), D.l t.L, D.l u.L, D.l (List.set v.L d.I.toNat (updC (List.getD v.L d.I.toNat []) [D.b (D.B (List.getD (List.getD v.L d.I.toNat []) 0 default))] (0 + 3) 0 (List.length [K.bool, K.int IntKind.i64, K.int IntKind.i64, K.bool, K.bool])))]))))) (T.ite (a.I == (10 : Int)) (T.need (decide (d.I.toNat < v.L.length)) (T.ite (D.B (List.getD (List.getD v.L d.I.toNat []) (0 + 1 + 1 + 1 + 1) default)) (T.need (decide (d.I.toNat < v.L.length)) (T.leaf [D.i 0, D.i e.I, D.i f.I, D.i g.I, D.i h.I, D.i i.I, D.i j.I, D.b k.B, D.i l.I, D.b m.B, D.b n.B, D.i o.I, D.b p.B, D.i (q.I.toNat : Int), D.i (r.I.toNat : Int), D.i (s.I.toNat : Int), D.l t.L, D.l u.L, D.l (List.set v.L d.I.toNat (updC (List.getD v.L d.I.toNat []) [D.b true] (0 + 4) 0 (List.length [K.bool, K.int IntKind.i64, K.int IntKind.i64, K.bool, K.bool])))])) (T.need (decide (d.I.toNat < v.L.length)) (T.need (decide (d.I.toNat < v.L.length)) (T.leaf [D.i 0, D.i e.I, D.i f.I, D.i g.I, D.i h.I, D.i i.I, D.i j.I, D.b k.B, D.i l.I, D.b m.B, D.b n.B, D.i o.I, D.b p.B, D.i (q.I.toNat : Int), D.i (r.I.toNat : Int), D.i (s.I.toNat : Int), D.l t.L, D.l u.L, D.l (List.set v.L d.I.toNat (updC (List.getD v.L d.I.toNat []) [D.b (D.B (List.getD (List.getD v.L d.I.toNat []) 0 default))] (0 + 4) 0 (List.length [K.bool, K.int IntKind.i64, K.int IntKind.i64, K.bool, K.bool])))]))))) (T.leaf [D.i 0, D.i e.I, D.i f.I, D.i g.I, D.i h.I, D.i i.I, D.i j.I, D.b k.B, D.i l.I, D.b m.B, D.b n.B, D.i o.I, D.b p.B, D.i (q.I.toNat : Int), D.i (r.I.toNat : Int), D.i (s.I.toNat : Int), D.l t.L, D.l u.L, D.l v.L])))))))) (T.ite (a.I == (7 : Int)) (T.need (yes ((q.I.toNat : Int) = (t.L.length : Int) ∧ (r.I.toNat : Int) = (u.L.length : Int) ∧ (s.I.toNat : Int) = (v.L.length : Int))) (T.leaf [D.i 0, D.i e.I, D.i f.I, D.i g.I, D.i h.I, D.i i.I, D.i j.I, D.b k.B, D.i l.I, D.b m.B, D.b (hearV n.B p.B o.I (a.I == (6 : Int)) false b.I), D.i (mxI o.I b.I), D.b true, D.i (↑(Int.toNat (q.I.toNat : Int)) : Int), D.i (↑(Int.toNat (r.I.toNat : Int)) : Int), D.i (↑(Int.toNat (s.I.toNat : Int)) : Int), D.l t.L, D.l u.L, D.l v.L])) (T.ite (a.I == (3 : Int)) (T.need (yes (((q.I.toNat : Int) = (t.L.length : Int) ∧ (r.I.toNat : Int) = (u.L.length : Int) ∧ (s.I.toNat : Int) = (v.L.length : Int)) ∧ (0 : Int) ≤ c.I ∧ c.I < (u.L.length : Int))) (T.leaf [D.i 0, D.i e.I, D.i f.I, D.i g.I, D.i h.I, D.i i.I, D.i j.I, D.b k.B, D.i l.I, D.b m.B, D.b n.B, D.i o.I, D.b p.B, D.i (↑(Int.toNat (q.I.toNat : Int)) : Int), D.i (↑(Int.toNat (r.I.toNat : Int)) : Int), D.i (↑(Int.toNat (s.I.toNat : Int)) : Int), D.l t.L, D.l (hearL u.L c.I.toNat true true b.I), D.l v.L])) (T.ite (a.I == (4 : Int)) (T.ite (a.I == (4 : Int)) (T.need (decide ((0 : Int) ≤ c.I ∧ c.I < (q.I.toNat : Int))) (T.need (yes ((0 : Int) ≤ (c.I.toNat : Int) ∧ (c.I.toNat : Int) < (t.L.length : Int))) (T.need (yes (((q.I.toNat : Int) = (↑(List.length (hearL t.L (Int.toNat (c.I.toNat : Int)) (a.I == (4 : Int)) true b.I)) : Int) ∧ (r.I.toNat : Int) = (u.L.length : Int) ∧ (s.I.toNat : Int) = (v.L.length : Int)) ∧ (0 : Int) ≤ c.I ∧ c.I < (u.L.length : Int))) (T.leaf [D.i 0, D.i e.I, D.i f.I, D.i g.I, D.i h.I, D.i i.I, D.i j.I, D.b k.B, D.i l.I, D.b m.B, D.b n.B, D.i o.I, D.b p.B, D.i (↑(Int.toNat (q.I.toNat : Int)) : Int), D.i (↑(Int.toNat (r.I.toNat : Int)) : Int), D.i (↑(Int.toNat (s.I.toNat : Int)) : Int), D.l (hearL t.L (Int.toNat (c.I.toNat : Int)) (a.I == (4 : Int)) true b.I), D.l (hearL u.L c.I.toNat true true b.I), D.l v.L])))) (T.ite (a.I == (8 : Int)) (T.need (decide (d.I.toNat < v.L.length)) (T.ite (D.B (List.getD (List.getD v.L d.I.toNat []) 0 default)) (T.need (decide (d.I.toNat < v.L.length)) (T.need (decide (d.I.toNat < v.L.length)) (T.need (yes (((q.I.toNat : Int) = (t.L.length : Int) ∧ (r.I.toNat : Int) = (u.L.length : Int) ∧ (s.I.toNat : Int) = (↑(List.length (List.set v.L d.I.toNat (updC (List.getD v.L d.I.toNat []) [D.i (if c.I > D.I (List.getD (List.getD v.L d.I.toNat []) (0 + 1 + 1) default) then c.I else D.I (List.getD (List.getD v.L d.I.toNat []) (0 + 1 + 1) default))] (0 + 2) 0 (List.length [K.bool, K.int IntKind.i64, K.int IntKind.i64, K.bool, K.bool])))) : Int)) ∧ (0 : Int) ≤ c.I ∧ c.I < (u.L.length : Int))) (T.leaf [D.i 0, D.i e.I, D.i f.I, D.i g.I, D.i h.I, D.i i.I, D.i j.I, D.b k.B, D.i l.I, D.b m.B, D.b n.B, D.i o.I, D.b p.B, D.i (↑(Int.toNat (q.I.toNat : Int)) : Int), D.i (↑(Int.toNat (r.I.toNat : Int)) : Int), D.i (↑(Int.toNat (s.I.toNat : Int)) : Int), D.l t.L, D.l (hearL u.L c.I.toNat true true b.I), D.l (List.set v.L d.I.toNat (updC (List.getD v.L d.I.toNat []) [D.i (if c.I > D.I (List.getD (List.getD v.L d.I.toNat []) (0 + 1 + 1) default) then c.I else D.I (List.getD (List.getD v.L d.I.toNat []) (0 + 1 + 1) default))] (0 + 2) 0 (List.length [K.bool, K.int IntKind.i64, K.int IntKind.i64, K.bool, K.bool])))])))) (T.need (yes (((q.I.toNat : Int) = (t.L.length : Int) ∧ (r.I.toNat : Int) = (u.L.length : Int) ∧ (s.I.toNat : Int) = (v.L.length : Int)) ∧ (0 : Int) ≤ c.I ∧ c.I < (u.L.length : Int))) (T.leaf [D.i 0, D.i e.I, D.i f.I, D.i g.I, D.i h.I, D.i i.I, D.i j.I, D.b k.B, D.i l.I, D.b m.B, D.b n.B, D.i o.I, D.b p.B, D.i (↑(Int.toNat (q.I.toNat : Int)) : Int), D.i (↑(Int.toNat (r.I.toNat : Int)) : Int), D.i (↑(Int.toNat (s.I.toNat : Int)) : Int), D.l t.L, D.l (hearL u.L c.I.toNat true true b.I), D.l v.L])))) (T.ite (a.I == (9 : Int)) (T.need (decide (d.I.toNat < v.L.length)) (T.ite (D.B (List.getD (List.getD v.L d.I.toNat []) (0 + 1 + 1 + 1) default)) (T.need (decide (d.I.toNat < v.L.length)) (T.leaf [D.i 0, D.i e.I, D.i f.I, D.i g.I, D.i h.I, D.i i.I, D.i j.I, D.b k.B, D.i l.I, D.b m.B, D.b n.B, D.i o.I, D.b p.B, D.i (q.I.toNat : Int), D.i (r.I.toNat : Int), D.i (s.I.toNat : Int), D.l t.L, D.l u.L, D.l (List.set v.L d.I.toNat (updC (List.getD v.L d.I.toNat []) [D.b true] (0 + 3) 0 (List.length [K.bool, K.int IntKind.i64, K.int IntKind.i64, K.bool, K.bool])))])) (T.need (decide (d.I.toNat < v.L.length)) (T.need (decide (d.I.toNat < v.L.length)) (T.leaf [D.i 0, D.i e.I, D.i f.I, D.i g.I, D.i h.I, D.i i.I, D.i j.I, D.b k.B, D.i l.I, D.b m.B, D.b n.B, D.i o.I, D.b p.B, D.i (q.I.toNat : Int), D.i (r.I.toNat : Int), D.i (s.I.toNat : Int), D.l t.L, D.l u.L, D.l (List.set v.L d.I.toNat (updC (List.getD v.L d.I.toNat []) [D.b (D.B (List.getD (List.getD v.L d.I.toNat []) 0 default))] (0 + 3) 0 (List.length [K.bool, K.int IntKind.i64, K.int IntKind.i64, K.bool, K.bool])))]))))) (T.ite (a.I == (10 : Int)) (T.need (decide (d.I.toNat < v.L.length)) (T.ite (D.B (List.getD (List.getD v.L d.I.toNat []) (0 + 1 + 1 + 1 + 1) default)) (T.need (decide (d.I.toNat < v.L.length)) (T.leaf [D.i 0, D.i e.I, D.i f.I, D.i g.I, D.i h.I, D.i i.I, D.i j.I, D.b k.B, D.i l.I, D.b m.B, D.b n.B, D.i o.I, D.b p.B, D.i (q.I.toNat : Int), D.i (r.I.toNat : Int), D.i (s.I.toNat : Int), D.l t.L, D.l u.L, D.l (List.set v.L d.I.toNat (updC (List.getD v.L d.I.toNat []) [D.b true] (0 + 4) 0 (List.length [K.bool, K.int IntKind.i64, K.int IntKind.i64, K.bool, K.bool])))])) (T.need (decide (d.I.toNat < v.L.length)) (T.need (decide (d.I.toNat < v.L.length)) (T.leaf [D.i 0, D.i e.I, D.i f.I, D.i g.I, D.i h.I, D.i i.I, D.i j.I, D.b k.B, D.i l.I, D.b m.B, D.b n.B, D.i o.I, D.b p.B, D.i (q.I.toNat : Int), D.i (r.I.toNat : Int), D.i (s.I.toNat : Int), D.l t.L, D.l u.L, D.l (List.set v.L d.I.toNat (updC (List.getD v.L d.I.toNat []) [D.b (D.B (List.getD (List.getD v.L d.I.toNat []) 0 default))] (0 + 4) 0 (List.length [K.bool, K.int IntKind.i64, K.int IntKind.i64, K.bool, K.bool])))]))))) (T.leaf [D.i 0, D.i e.I, D.i f.I, D.i g.I, D.i h.I, D.i i.I, D.i j.I, D.b k.B, D.i l.I, D.b m.B, D.b n.B, D.i o.I, D.b p.B, D.i (q.I.toNat : Int), D.i (r.I.toNat : Int), D.i (s.I.toNat : Int), D.l t.L, D.l u.L, D.l v.L]))))) (T.ite (a.I == (5 : Int)) (T.need (decide ((0 : Int) ≤ c.I ∧ c.I < (q.I.toNat : Int))) (T.need (yes ((0 : Int) ≤ (c.I.toNat : Int) ∧ (c.I.toNat : Int) < (t.L.length : Int))) (T.need (yes (((q.I.toNat : Int) = (↑(List.length (hearL t.L (Int.toNat (c.I.toNat : Int)) (a.I == (4 : Int)) true b.I)) : Int) ∧ (r.I.toNat : Int) = (u.L.length : Int) ∧ (s.I.toNat : Int) = (v.L.length : Int)) ∧ (0 : Int) ≤ c.I ∧ c.I < (u.L.length : Int))) (T.leaf [D.i 0, D.i e.I, D.i f.I, D.i g.I, D.i h.I, D.i i.I, D.i j.I, D.b k.B, D.i l.I, D.b m.B, D.b n.B, D.i o.I, D.b p.B, D.i (↑(Int.toNat (q.I.toNat : Int)) : Int), D.i (↑(Int.toNat (r.I.toNat : Int)) : Int), D.i (↑(Int.toNat (s.I.toNat : Int)) : Int), D.l (hearL t.L (Int.toNat (c.I.toNat : Int)) (a.I == (4 : Int)) true b.I), D.l (hearL u.L c.I.toNat true true b.I), D.l v.L])))) (T.ite (a.I == (8 : Int)) (T.need (decide (d.I.toNat < v.L.length)) (T.ite (D.B (List.getD (List.getD v.L d.I.toNat []) 0 default)) (T.need (decide (d.I.toNat < v.L.length)) (T.need (decide (d.I.toNat < v.L.length)) (T.need (yes (((q.I.toNat : Int) = (t.L.length : Int) ∧ (r.I.toNat : Int) = (u.L.length : Int) ∧ (s.I.toNat : Int) = (↑(List.length (List.set v.L d.I.toNat (updC (List.getD v.L d.I.toNat []) [D.i (if c.I > D.I (List.getD (List.getD v.L d.I.toNat []) (0 + 1 + 1) default) then c.I else D.I (List.getD (List.getD v.L d.I.toNat []) (0 + 1 + 1) default))] (0 + 2) 0 (List.length [K.bool, K.int IntKind.i64, K.int IntKind.i64, K.bool, K.bool])))) : Int)) ∧ (0 : Int) ≤ c.I ∧ c.I < (u.L.length : Int))) (T.leaf [D.i 0, D.i e.I, D.i f.I, D.i g.I, D.i h.I, D.i i.I, D.i j.I, D.b k.B, D.i l.I, D.b m.B, D.b n.B, D.i o.I, D.b p.B, D.i (↑(Int.toNat (q.I.toNat : Int)) : Int), D.i (↑(Int.toNat (r.I.toNat : Int)) : Int), D.i (↑(Int.toNat (s.I.toNat : Int)) : Int), D.l t.L, D.l (hearL u.L c.I.toNat true true b.I), D.l (List.set v.L d.I.toNat (updC (List.getD v.L d.I.toNat []) [D.i (if c.I > D.I (List.getD (List.getD v.L d.I.toNat []) (0 + 1 + 1) default) then c.I else D.I (List.getD (List.getD v.L d.I.toNat []) (0 + 1 + 1) default))] (0 + 2) 0 (List.length [K.bool, K.int IntKind.i64, K.int IntKind.i64, K.bool, K.bool])))])))) (T.need (yes (((q.I.toNat : Int) = (t.L.length : Int) ∧ (r.I.toNat : Int) = (u.L.length : Int) ∧ (s.I.toNat : Int) = (v.L.length : Int)) ∧ (0 : Int) ≤ c.I ∧ c.I < (u.L.length : Int))) (T.leaf [D.i 0, D.i e.I, D.i f.I, D.i g.I, D.i h.I, D.i i.I, D.i j.I, D.b k.B, D.i l.I, D.b m.B, D.b n.B, D.i o.I, D.b p.B, D.i (↑(Int.toNat (q.I.toNat : Int)) : Int), D.i (↑(Int.toNat (r.I.toNat : Int)) : Int), D.i (↑(Int.toNat (s.I.toNat : Int)) : Int), D.l t.L, D.l (hearL u.L c.I.toNat true true b.I), D.l v.L])))) (T.ite (a.I == (9 : Int)) (T.need (decide (d.I.toNat < v.L.length)) (T.ite (D.B (List.getD (List.getD v.L d.I.toNat []) (0 + 1 + 1 + 1) default)) (T.need (decide (d.I.toNat < v.L.length)) (T.leaf [D.i 0, D.i e.I, D.i f.I, D.i g.I, D.i h.I, D.i i.I, D.i j.I, D.b k.B, D.i l.I, D.b m.B, D.b n.B, D.i o.I, D.b p.B, D.i (q.I.toNat : Int), D.i (r.I.toNat : Int), D.i (s.I.toNat : Int), D.l t.L, D.l u.L, D.l (List.set v.L d.I.toNat (updC (List.getD v.L d.I.toNat []) [D.b true] (0 + 3) 0 (List.length [K.bool, K.int IntKind.i64, K.int IntKind.i64, K.bool, K.bool])))])) (T.need (decide (d.I.toNat < v.L.length)) (T.need (decide (d.I.toNat < v.L.length)) (T.leaf [D.i 0, D.i e.I, D.i f.I, D.i g.I, D.i h.I, D.i i.I, D.i j.I, D.b k.B, D.i l.I, D.b m.B, D.b n.B, D.i o.I, D.b p.B, D.i (q.I.toNat : Int), D.i (r.I.toNat : Int), D.i (s.I.toNat : Int), D.l t.L, D.l u.L, D.l (List.set v.L d.I.toNat (updC (List.getD v.L d.I.toNat []) [D.b (D.B (List.getD (List.getD v.L d.I.toNat []) 0 default))] (0 + 3) 0 (List.length [K.bool, K.int IntKind.i64, K.int IntKind.i64, K.bool, K.bool])))]))))) (T.ite (a.I == (10 : Int)) (T.need (decide (d.I.toNat < v.L.length)) (T.ite (D.B (List.getD (List.getD v.L d.I.toNat []) (0 + 1 + 1 + 1 + 1) default)) (T.need (decide (d.I.toNat < v.L.length)) (T.leaf [D.i 0, D.i e.I, D.i f.I, D.i g.I, D.i h.I, D.i i.I, D.i j.I, D.b k.B, D.i l.I, D.b m.B, D.b n.B, D.i o.I, D.b p.B, D.i (q.I.toNat : Int), D.i (r.I.toNat : Int), D.i (s.I.toNat : Int), D.l t.L, D.l u.L, D.l (List.set v.L d.I.toNat (updC (List.getD v.L d.I.toNat []) [D.b true] (0 + 4) 0 (List.length [K.bool, K.int IntKind.i64, K.int IntKind.i64, K.bool, K.bool])))])) (T.need (decide (d.I.toNat < v.L.length)) (T.need (decide (d.I.toNat < v.L.length)) (T.leaf [D.i 0, D.i e.I, D.i f.I, D.i g.I, D.i h.I, D.i i.I, D.i j.I, D.b k.B, D.i l.I, D.b m.B, D.b n.B, D.i o.I, D.b p.B, D.i (q.I.toNat : Int), D.i (r.I.toNat : Int), D.i (s.I.toNat : Int), D.l t.L, D.l u.L, D.l (List.set v.L d.I.toNat (updC (List.getD v.L d.I.toNat []) [D.b (D.B (List.getD (List.getD v.L d.I.toNat []) 0 default))] (0 + 4) 0 (List.length [K.bool, K.int IntKind.i64, K.int IntKind.i64, K.bool, K.bool])))]))))) (T.leaf [D.i 0, D.i e.I, D.i f.I, D.i g.I, D.i h.I, D.i i.I, D.i j.I, D.b k.B, D.i l.I, D.b m.B, D.b n.B, D.i o.I, D.b p.B, D.i (q.I.toNat : Int), D.i (r.I.toNat : Int), D.i (s.I.toNat : Int), D.l t.L, D.l u.L, D.l v.L])))))))))) (T.ite (a.I == (2 : Int)) (T.need (yes ((q.I.toNat : Int) = (t.L.length : Int) ∧ (r.I.toNat : Int) = (u.L.length : Int) ∧ (s.I.toNat : Int) = (v.L.length : Int))) (T.leaf [D.i 0, D.i e.I, D.i f.I, D.i g.I, D.i h.I, D.i i.I, D.i j.I, D.b (hearV k.B m.B l.I (a.I == (1 : Int)) false b.I), D.i (mxI l.I b.I), D.b true, D.b n.B, D.i o.I, D.b p.B, D.i (↑(Int.toNat (q.I.toNat : Int)) : Int), D.i (↑(Int.toNat (r.I.toNat : Int)) : Int), D.i (↑(Int.toNat (s.I.toNat : Int)) : Int), D.l t.L, D.l u.L, D.l v.L])) (T.ite (a.I == (6 : Int)) (T.ite (a.I == (6 : Int)) (T.need (yes ((q.I.toNat : Int) = (t.L.length : Int) ∧ (r.I.toNat : Int) = (u.L.length : Int) ∧ (s.I.toNat : Int) = (v.L.length : Int))) (T.leaf [D.i 0, D.i e.I, D.i f.I, D.i g.I, D.i h.I, D.i i.I, D.i j.I, D.b k.B, D.i l.I, D.b m.B, D.b (hearV n.B p.B o.I (a.I == (6 : Int)) false b.I), D.i (mxI o.I b.I), D.b true, D.i (↑(Int.toNat (q.I.toNat : Int)) : Int), D.i (↑(Int.toNat (r.I.toNat : Int)) : Int), D.i (↑(Int.toNat (s.I.toNat : Int)) : Int), D.l t.L, D.l u.L, D.l v.L])) (T.ite (a.I == (3 : Int)) (T.need (yes (((q.I.toNat : Int) = (t.L.length : Int) ∧ (r.I.toNat : Int) = (u.L.length : Int) ∧ (s.I.toNat : Int) = (v.L.length : Int)) ∧ (0 : Int) ≤ c.I ∧ c.I < (u.L.length : Int))) (T.leaf [D.i 0, D.i e.I, D.i f.I, D.i g.I, D.i h.I, D.i i.I, D.i j.I, D.b k.B, D.i l.I, D.b m.B, D.b n.B, D.i o.I, D.b p.B, D.i (↑(Int.toNat (q.I.toNat : Int)) : Int), D.i (↑(Int.toNat (r.I.toNat : Int)) : Int), D.i (↑(Int.toNat (s.I.toNat : Int)) : Int), D.l t.L, D.l (hearL u.L c.I.toNat true true b.I), D.l v.L])) (T.ite (a.I == (4 : Int)) (T.ite (a.I == (4 : Int)) (T.need (decide ((0 : Int) ≤ c.I ∧ c.I < (q.I.toNat : Int))) (T.need (yes ((0 : Int) ≤ (c.I.toNat : Int) ∧ (c.I.toNat : Int) < (t.L.length : Int))) (T.need (yes (((q.I.toNat : Int) = (↑(List.length (hearL t.L (Int.toNat (c.I.toNat : Int)) (a.I == (4 : Int)) true b.I)) : Int) ∧ (r.I.toNat : Int) = (u.L.length : Int) ∧ (s.I.toNat : Int) = (v.L.length : Int)) ∧ (0 : Int) ≤ c.I ∧ c.I < (u.L.length : Int))) (T.leaf [D.i 0, D.i e.I, D.i f.I, D.i g.I, D.i h.I, D.i i.I, D.i j.I, D.b k.B, D.i l.I, D.b m.B, D.b n.B, D.i o.I, D.b p.B, D.i (↑(Int.toNat (q.I.toNat : Int)) : Int), D.i (↑(Int.toNat (r.I.toNat : Int)) : Int), D.i (↑(Int.toNat (s.I.toNat : Int)) : Int), D.l (hearL t.L (Int.toNat (c.I.toNat : Int)) (a.I == (4 : Int)) true b.I), D.l (hearL u.L c.I.toNat true true b.I), D.l v.L])))) (T.ite (a.I == (8 : Int)) (T.need (decide (d.I.toNat < v.L.length)) (T.ite (D.B (List.getD (List.getD v.L d.I.toNat []) 0 default)) (T.need (decide (d.I.toNat < v.L.length)) (T.need (decide (d.I.toNat < v.L.length)) (T.need (yes (((q.I.toNat : Int) = (t.L.length : Int) ∧ (r.I.toNat : Int) = (u.L.length : Int) ∧ (s.I.toNat : Int) = (↑(List.length (List.set v.L d.I.toNat (updC (List.getD v.L d.I.toNat []) [D.i (if c.I > D.I (List.getD (List.getD v.L d.I.toNat []) (0 + 1 + 1) default) then c.I else D.I (List.getD (List.getD v.L d.I.toNat []) (0 + 1 + 1) default))] (0 + 2) 0 (List.length [K.bool, K.int IntKind.i64, K.int IntKind.i64, K.bool, K.bool])))) : Int)) ∧ (0 : Int) ≤ c.I ∧ c.I < (u.L.length : Int))) (T.leaf [D.i 0, D.i e.I, D.i f.I, D.i g.I, D.i h.I, D.i i.I, D.i j.I, D.b k.B, D.i l.I, D.b m.B, D.b n.B, D.i o.I, D.b p.B, D.i (↑(Int.toNat (q.I.toNat : Int)) : Int), D.i (↑(Int.toNat (r.I.toNat : Int)) : Int), D.i (↑(Int.toNat (s.I.toNat : Int)) : Int), D.l t.L, D.l (hearL u.L c.I.toNat true true b.I), D.l (List.set v.L d.I.toNat (updC (List.getD v.L d.I.toNat []) [D.i (if c.I > D.I (List.getD (List.getD v.L d.I.toNat []) (0 + 1 + 1) default) then c.I else D.I (List.getD (List.getD v.L d.I.toNat []) (0 + 1 + 1) default))] (0 + 2) 0 (List.length [K.bool, K.int IntKind.i64, K.int IntKind.i64, K.bool, K.bool])))])))) (T.need (yes (((q.I.toNat : Int) = (t.L.length : Int) ∧ (r.I.toNat : Int) = (u.L.length : Int) ∧ (s.I.toNat : Int) = (v.L.length : Int)) ∧ (0 : Int) ≤ c.I ∧ c.I < (u.L.length : Int))) (T.leaf [D.i 0, D.i e.I, D.i f.I, D.i g.I, D.i h.I, D.i i.I, D.i j.I, D.b k.B, D.i l.I, D.b m.B, D.b n.B, D.i o.I, D.b p.B, D.i (↑(Int.toNat (q.I.toNat : Int)) : Int), D.i (↑(Int.toNat (r.I.toNat : Int)) : Int), D.i (↑(Int.toNat (s.I.toNat : Int)) : Int), D.l t.L, D.l (hearL u.L c.I.toNat true true b.I), D.l v.L])))) (T.ite (a.I == (9 : Int)) (T.need (decide (d.I.toNat < v.L.length)) (T.ite (D.B (List.getD (List.getD v.L d.I.toNat []) (0 + 1 + 1 + 1) default)) (T.need (decide (d.I.toNat < v.L.length)) (T.leaf [D.i 0, D.i e.I, D.i f.I, D.i g.I, D.i h.I, D.i i.I, D.i j.I, D.b k.B, D.i l.I, D.b m.B, D.b n.B, D.i o.I, D.b p.B, D.i (q.I.toNat : Int), D.i (r.I.toNat : Int), D.i (s.I.toNat : Int), D.l t.L, D.l u.L, D.l (List.set v.L d.I.toNat (updC (List.getD v.L d.I.toNat []) [D.b true] (0 + 3) 0 (List.length [K.bool, K.int IntKind.i64, K.int IntKind.i64, K.bool, K.bool])))])) (T.need (decide (d.I.toNat < v.L.length)) (T.need (decide (d.I.toNat < v.L.length)) (T.leaf [D.i 0, D.i e.I, D.i f.I, D.i g.I, D.i h.I, D.i i.I, D.i j.I, D.b k.B, D.i l.I, D.b m.B, D.b n.B, D.i o.I, D.b p.B, D.i (q.I.toNat : Int), D.i (r.I.toNat : Int), D.i (s.I.toNat : Int), D.l t.L, D.l u.L, D.l (List.set v.L d.I.toNat (updC (List.getD v.L d.I.toNat []) [D.b (D.B (List.getD (List.getD v.L d.I.toNat []) 0 default))] (0 + 3) 0 (List.length [K.bool, K.int IntKind.i64, K.int IntKind.i64, K.bool, K.bool])))]))))) (T.ite (a.I == (10 : Int)) (T.need (decide (d.I.toNat < v.L.length)) (T.ite (D.B (List.getD (List.getD v.L d.I.toNat []) (0 + 1 + 1 + 1 + 1) default)) (T.need (decide (d.I.toNat < v.L.length)) (T.leaf [D.i 0, D.i e.I, D.i f.I, D.i g.I, D.i h.I, D.i i.I, D.i j.I, D.b k.B, D.i l.I, D.b m.B, D.b n.B, D.i o.I, D.b p.B, D.i (q.I.toNat : Int), D.i (r.I.toNat : Int), D.i (s.I.toNat : Int), D.l t.L, D.l u.L, D.l (List.set v.L d.I.toNat (updC (List.getD v.L d.I.toNat []) [D.b true] (0 + 4) 0 (List.length [K.bool, K.int IntKind.i64, K.int IntKind.i64, K.bool, K.bool])))])) (T.need (decide (d.I.toNat < v.L.length)) (T.need (decide (d.I.toNat < v.L.length)) (T.leaf [D.i 0, D.i e.I, D.i f.I, D.i g.I, D.i h.I, D.i i.I, D.i j.I, D.b k.B, D.i l.I, D.b m.B, D.b n.B, D.i o.I, D.b p.B, D.i (q.I.toNat : Int), D.i (r.I.toNat : Int), D.i (s.I.toNat : Int), D.l t.L, D.l u.L, D.l (List.set v.L d.I.toNat (updC (List.getD v.L d.I.toNat []) [D.b (D.B (List.getD (List.getD v.L d.I.toNat []) 0 default))] (0 + 4) 0 (List.length [K.bool, K.int IntKind.i64, K.int IntKind.i64, K.bool, K.bool])))]))))) (T.leaf [D.i 0, D.i e.I, D.i f.I, D.i g.I, D.i h.I, D.i i.I, D.i j.I, D.b k.B, D.i l.I, D.b m.B, D.b n.B, D.i o.I, D.b p.B, D.i (q.I.toNat : Int), D.i (r.I.toNat : Int), D.i (s.I.toNat : Int), D.l t.L, D.l u.L, D.l v.L]))))) (T.ite (a.I == (5 : Int)) (T.need (decide ((0 : Int) ≤ c.I ∧ c.I < (q.I.toNat : Int))) (T.need (yes ((0 : Int) ≤ (c.I.toNat : Int) ∧ (c.I.toNat : Int) < (t.L.length : Int))) (T.need (yes (((q.I.toNat : Int) = (↑(List.length (hearL t.L (Int.toNat (c.I.toNat : Int)) (a.I == (4 : Int)) true b.I)) : Int) ∧ (r.I.toNat : Int) = (u.L.length : Int) ∧ (s.I.toNat : Int) = (v.L.length : Int)) ∧ (0 : Int) ≤ c.I ∧ c.I < (u.L.length : Int))) (T.leaf [D.i 0, D.i e.I, D.i f.I, D.i g.I, D.i h.I, D.i i.I, D.i j.I, D.b k.B, D.i l.I, D.b m.B, D.b n.B, D.i o.I, D.b p.B, D.i (↑(Int.toNat (q.I.toNat : Int)) : Int), D.i (↑(Int.toNat (r.I.toNat : Int)) : Int), D.i (↑(Int.toNat (s.I.toNat : Int)) : Int), D.l (hearL t.L (Int.toNat (c.I.toNat : Int)) (a.I == (4 : Int)) true b.I), D.l (hearL u.L c.I.toNat true true b.I), D.l v.L])))) (T.ite (a.I == (8 : Int)) (T.need (decide (d.I.toNat < v.L.length)) (T.ite (D.B (List.getD (List.getD v.L d.I.toNat []) 0 default)) (T.need (decide (d.I.toNat < v.L.length)) (T.need (decide (d.I.toNat < v.L.length)) (T.need (yes (((q.I.toNat : Int) = (t.L.length : Int) ∧ (r.I.toNat : Int) = (u.L.length : Int) ∧ (s.I.toNat : Int) = (↑(List.length (List.set v.L d.I.toNat (updC (List.getD v.L d.I.toNat []) [D.i (if c.I > D.I (List.getD (List.getD v.L d.I.toNat []) (0 + 1 + 1) default) then c.I else D.I (List.getD (List.getD v.L d.I.toNat []) (0 + 1 + 1) default))] (0 + 2) 0 (List.length [K.bool, K.int IntKind.i64, K.int IntKind.i64, K.bool, K.bool])))) : Int)) ∧ (0 : Int) ≤ c.I ∧ c.I < (u.L.length : Int))) (T.leaf [D.i 0, D.i e.I, D.i f.I, D.i g.I, D.i h.I, D.i i.I, D.i j.I, D.b k.B, D.i l.I, D.b m.B, D.b n.B, D.i o.I, D.b p.B, D.i (↑(Int.toNat (q.I.toNat : Int)) : Int), D.i (↑(Int.toNat (r.I.toNat : Int)) : Int), D.i (↑(Int.toNat (s.I.toNat : Int)) : Int), D.l t.L, D.l (hearL u.L c.I.toNat true true b.I), D.l (List.set v.L d.I.toNat (updC (List.getD v.L d.I.toNat []) [D.i (if c.I > D.I (List.getD (List.getD v.L d.I.toNat []) (0 + 1 + 1) default) then c.I else D.I (List.getD (List.getD v.L d.I.toNat []) (0 + 1 + 1) default))] (0 + 2) 0 (List.length [K.bool, K.int IntKind.i64, K.int IntKind.i64, K.bool, K.bool])))])))) (T.need (yes (((q.I.toNat : Int) = (t.L.length : Int) ∧ (r.I.toNat : Int) = (u.L.length : Int) ∧ (s.I.toNat : Int) = (v.L.length : Int)) ∧ (0 : Int) ≤ c.I ∧ c.I < (u.L.length : Int))) (T.leaf [D.i 0, D.i e.I, D.i f.I, D.i g.I, D.i h.I, D.i i.I, D.i j.I, D.b k.B, D.i l.I, D.b m.B, D.b n.B, D.i o.I, D.b p.B, D.i (↑(Int.toNat (q.I.toNat : Int)) : Int), D.i (↑(Int.toNat (r.I.toNat : Int)) : Int), D.i (↑(Int.toNat (s.I.toNat : Int)) : Int), D.l t.L, D.l (hearL u.L c.I.toNat true true b.I), D.l v.L])))) (T.ite (a.I == (9 : Int)) (T.need (decide (d.I.toNat < v.L.length)) (T.ite (D.B (List.getD (List.getD v.L d.I.toNat []) (0 + 1 + 1 + 1) default)) (T.need (decide (d.I.toNat < v.L.length)) (T.leaf [D.i 0, D.i e.I, D.i f.I, D.i g.I, D.i h.I, D.i i.I, D.i j.I, D.b k.B, D.i l.I, D.b m.B, D.b n.B, D.i o.I, D.b p.B, D.i (q.I.toNat : Int), D.i (r.I.toNat : Int), D.i (s.I.toNat : Int), D.l t.L, D.l u.L, D.l (List.set v.L d.I.toNat (updC (List.getD v.L d.I.toNat []) [D.b true] (0 + 3) 0 (List.length [K.bool, K.int IntKind.i64, K.int IntKind.i64, K.bool, K.bool])))])) (T.need (decide (d.I.toNat < v.L.length)) (T.need (decide (d.I.toNat < v.L.length)) (T.leaf [D.i 0, D.i e.I, D.i f.I, D.i g.I, D.i h.I, D.i i.I, D.i j.I, D.b k.B, D.i l.I, D.b m.B, D.b n.B, D.i o.I, D.b p.B, D.i (q.I.toNat : Int), D.i (r.I.toNat : Int), D.i (s.I.toNat : Int), D.l t.L, D.l u.L, D.l (List.set v.L d.I.toNat (updC (List.getD v.L d.I.toNat []) [D.b (D.B (List.getD (List.getD v.L d.I.toNat []) 0 default))] (0 + 3) 0 (List.length [K.bool, K.int IntKind.i64, K.int IntKind.i64, K.bool, K.bool])))]))))) (T.ite (a.I == (10 : Int)) (T.need (decide (d.I.toNat < v.L.length)) (T.ite (D.B (List.getD (List.getD v.L d.I.toNat []) (0 + 1 + 1 + 1 + 1) default)) (T.need (decide (d.I.toNat < v.L.length)) (T.leaf [D.i 0, D.i e.I, D.i f.I, D.i g.I, D.i h.I, D.i i.I, D.i j.I, D.b k.B, D.i l.I, D.b m.B, D.b n.B, D.i o.I, D.b p.B, D.i (q.I.toNat : Int), D.i (r.I.toNat : Int), D.i (s.I.toNat : Int), D.l t.L, D.l u.L, D.l (List.set v.L d.I.toNat (updC (List.getD v.L d.I.toNat []) [D.b true] (0 + 4) 0 (List.length [K.bool, K.int IntKind.i64, K.int IntKind.i64, K.bool, K.bool])))])) (T.need (decide (d.I.toNat < v.L.length)) (T.need (decide (d.I.toNat < v.L.length)) (T.leaf [D.i 0, D.i e.I, D.i f.I, D.i g.I, D.i h.I, D.i i.I, D.i j.I, D.b k.B, D.i l.I, D.b m.B, D.b n.B, D.i o.I, D.b p.B, D.i (q.I.toNat : Int), D.i (r.I.toNat : Int), D.i (s.I.toNat : Int), D.l t.L, D.l u.L, D.l (List.set v.L d.I.toNat (updC (List.getD v.L d.I.toNat []) [D.b (D.B (List.getD (List.getD v.L d.I.toNat []) 0 default))] (0 + 4) 0 (List.length [K.bool, K.int IntKind.i64, K.int IntKind.i64, K.bool, K.bool])))]))))) (T.leaf [D.i 0, D.i e.I, D.i f.I, D.i g.I, D.i h.I, D.i i.I, D.i j.I, D.b k.B, D.i l.I, D.b m.B, D.b n.B, D.i o.I, D.b p.B, D.i (q.I.toNat : Int), D.i (r.I.toNat : Int), D.i (s.I.toNat : Int), D.l t.L, D.l u.L, D.l v.L])))))))) (T.ite (a.I == (7 : Int)) (T.need (yes ((q.I.toNat : Int) = (t.L.length : Int) ∧ (r.I.toNat : Int) = (u.L.length : Int) ∧ (s.I.toNat : Int) = (v.L.length : Int))) (T.leaf [D.i 0, D.i e.I, D.i f.I, D.i g.I, D.i h.I, D.i i.I, D.i j.I, D.b k.B, D.i l.I, D.b m.B, D.b (hearV n.B p.B o.I (a.I == (6 : Int)) false b.I), D.i (mxI o.I b.I), D.b true, D.i (↑(Int.toNat (q.I.toNat : Int)) : Int), D.i (↑(Int.toNat (r.I.toNat : Int)) : Int), D.i (↑(Int.toNat (s.I.toNat : Int)) : Int), D.l t.L, D.l u.L, D.l v.L])) (T.ite (a.I == (3 : Int)) (T.need (yes (((q.I.toNat : Int) = (t.L.length : Int) ∧ (r.I.toNat : Int) = (u.L.length : Int) ∧ (s.I.toNat : Int) = (v.L.length : Int)) ∧ (0 : Int) ≤ c.I ∧ c.I < (u.L.length : Int))) (T.leaf [D.i 0, D.i e.I, D.i f.I, D.i g.I, D.i h.I, D.i i.I, D.i j.I, D.b k.B, D.i l.I, D.b m.B, D.b n.B, D.i o.I, D.b p.B, D.i (↑(Int.toNat (q.I.toNat : Int)) : Int), D.i (↑(Int.toNat (r.I.toNat : Int)) : Int), D.i (↑(Int.toNat (s.I.toNat : Int)) : Int), D.l t.L, D.l (hearL u.L c.I.toNat true true b.I), D.l v.L])) (T.ite (a.I == (4 : Int)) (T.ite (a.I == (4 : Int)) (T.need (decide ((0 : Int) ≤ c.I ∧ c.I < (q.I.toNat : Int))) (T.need (yes ((0 : Int) ≤ (c.I.toNat : Int) ∧ (c.I.toNat : Int) < (t.L.length : Int))) (T.need (yes (((q.I.toNat : Int) = (↑(List.length (hearL t.L (Int.toNat (c.I.toNat : Int)) (a.I == (4 : Int)) true b.I)) : Int) ∧ (r.I.toNat : Int) = (u.L.length : Int) ∧ (s.I.toNat : Int) = (v.L.length : Int)) ∧ (0 : Int) ≤ c.I ∧ c.I < (u.L.length : Int))) (T.leaf [D.i 0, D.i e.I, D.i f.I, D.i g.I, D.i h.I, D.i i.I, D.i j.I, D.b k.B, D.i l.I, D.b m.B, D.b n.B, D.i o.I, D.b p.B, D.i (↑(Int.toNat (q.I.toNat : Int)) : Int), D.i (↑(Int.toNat (r.I.toNat : Int)) : Int), D.i (↑(Int.toNat (s.I.toNat : Int)) : Int), D.l (hearL t.L (Int.toNat (c.I.toNat : Int)) (a.I == (4 : Int)) true b.I), D.l (hearL u.L c.I.toNat true true b.I), D.l v.L])))) (T.ite (a.I == (8 : Int)) (T.need (decide (d.I.toNat < v.L.length)) (T.ite (D.B (List.getD (List.getD v.L d.I.toNat []) 0 default)) (T.need (decide (d.I.toNat < v.L.length)) (T.need (decide (d.I.toNat < v.L.length)) (T.need (yes (((q.I.toNat : Int) = (t.L.length : Int) ∧ (r.I.toNat : Int) = (u.L.length : Int) ∧ (s.I.toNat : Int) = (↑(List.length (List.set v.L d.I.toNat (updC (List.getD v.L d.I.toNat []) [D.i (if c.I > D.I (List.getD (List.getD v.L d.I.toNat []) (0 + 1 + 1) default) then c.I else D.I (List.getD (List.getD v.L d.I.toNat []) (0 + 1 + 1) default))] (0 + 2) 0 (List.length [K.bool, K.int IntKind.i64, K.int IntKind.i64, K.bool, K.bool])))) : Int)) ∧ (0 : Int) ≤ c.I ∧ c.I < (u.L.length : Int))) (T.leaf [D.i 0, D.i e.I, D.i f.I, D.i g.I, D.i h.I, D.i i.I, D.i j.I, D.b k.B, D.i l.I, D.b m.B, D.b n.B, D.i o.I, D.b p.B, D.i (↑(Int.toNat (q.I.toNat : Int)) : Int), D.i (↑(Int.toNat (r.I.toNat : Int)) : Int), D.i (↑(Int.toNat (s.I.toNat : Int)) : Int), D.l t.L, D.l (hearL u.L c.I.toNat true true b.I), D.l (List.set v.L d.I.toNat (updC (List.getD v.L d.I.toNat []) [D.i (if c.I > D.I (List.getD (List.getD v.L d.I.toNat []) (0 + 1 + 1) default) then c.I else D.I (List.getD (List.getD v.L d.I.toNat []) (0 + 1 + 1) default))] (0 + 2) 0 (List.length [K.bool, K.int IntKind.i64, K.int IntKind.i64, K.bool, K.bool])))])))) (T.need (yes (((q.I.toNat : Int) = (t.L.length : Int) ∧ (r.I.toNat : Int) = (u.L.length : Int) ∧ (s.I.toNat : Int) = (v.L.length : Int)) ∧ (0 : Int) ≤ c.I ∧ c.I < (u.L.length : Int))) (T.leaf [D.i 0, D.i e.I, D.i f.I, D.i g.I, D.i h.I, D.i i.I, D.i j.I, D.b k.B, D.i l.I, D.b m.B, D.b n.B, D.i o.I, D.b p.B, D.i (↑(Int.toNat (q.I.toNat : Int)) : Int), D.i (↑(Int.toNat (r.I.toNat : Int)) : Int), D.i (↑(Int.toNat (s.I.toNat : Int)) : Int), D.l t.L, D.l (hearL u.L c.I.toNat true true b.I), D.l v.L])))) (T.ite (a.I == (9 : Int)) (T.need (decide (d.I.toNat < v.L.length)) (T.ite (D.B (List.getD (List.getD v.L d.I.toNat []) (0 + 1 + 1 + 1) default)) (T.need (decide (d.I.toNat < v.L.length)) (T.leaf [D.i 0, D.i e.I, D.i f.I, D.i g.I, D.i h.I, D.i i.I, D.i j.I, D.b k.B, D.i l.I, D.b m.B, D.b n.B, D.i o.I, D.b p.B, D.i (q.I.toNat : Int), D.i (r.I.toNat : Int), D.i (s.I.toNat : Int), D.l t.L, D.l u.L, D.l (List.set v.L d.I.toNat (updC (List.getD v.L d.I.toNat []) [D.b true] (0 + 3) 0 (List.length [K.bool, K.int IntKind.i64, K.int IntKind.i64, K.bool, K.bool])))])) (T.need (decide (d.I.toNat < v.L.length)) (T.need (decide (d.I.toNat < v.L.length)) (T.leaf [D.i 0, D.i e.I, D.i f.I, D.i g.I, D.i h.I, D.i i.I, D.i j.I, D.b k.B, D.i l.I, D.b m.B, D.b n.B, D.i o.I, D.b p.B, D.i (q.I.toNat : Int), D.i (r.I.toNat : Int), D.i (s.I.toNat : Int), D.l t.L, D.l u.L, D.l (List.set v.L d.I.toNat (updC (List.getD v.L d.I.toNat []) [D.b (D.B (List.getD (List.getD v.L d.I.toNat []) 0 default))] (0 + 3) 0 (List.length [K.bool, K.int IntKind.i64, K.int IntKind.i64, K.bool, K.bool])))]))))) (T.ite (a.I == (10 : Int)) (T.need (decide (d.I.toNat < v.L.length)) (T.ite (D.B (List.getD (List.getD v.L d.I.toNat []) (0 + 1 + 1 + 1 + 1) default)) (T.need (decide (d.I.toNat < v.L.length)) (T.leaf [D.i 0, D.i e.I, D.i f.I, D.i g.I, D.i h.I, D.i i.I, D.i j.I, D.b k.B, D.i l.I, D.b m.B, D.b n.B, D.i o.I, D.b p.B, D.i (q.I.toNat : Int), D.i (r.I.toNat : Int), D.i (s.I.toNat : Int), D.l t.L, D.l u.L, D.l (List.set v.L d.I.toNat (updC (List.getD v.L d.I.toNat []) [D.b true] (0 + 4) 0 (List.length [K.bool, K.int IntKind.i64, K.int IntKind.i64, K.bool, K.bool])))])) (T.need (decide (d.I.toNat < v.L.length)) (T.need (decide (d.I.toNat < v.L.length)) (T.leaf [D.i 0, D.i e.I, D.i f.I, D.i g.I, D.i h.I, D.i i.I, D.i j.I, D.b k.B, D.i l.I, D.b m.B, D.b n.B, D.i o.I, D.b p.B, D.i (q.I.toNat : Int), D.i (r.I.toNat : Int), D.i (s.I.toNat : Int), D.l t.L, D.l u.L, D.l (List.set v.L d.I.toNat (updC (List.getD v.L d.I.toNat []) [D.b (D.B (List.getD (List.getD v.L d.I.toNat []) 0 default))] (0 + 4) 0 (List.length [K.bool, K.int IntKind.i64, K.int IntKind.i64, K.bool, K.bool])))]))))) (T.leaf [D.i 0, D.i e.I, D.i f.I, D.i g.I, D.i h.I, D.i i.I, D.i j.I, D.b k.B, D.i l.I, D.b m.B, D.b n.B, D.i o.I, D.b p.B, D.i (q.I.toNat : Int), D.i (r.I.toNat : Int), D.i (s.I.toNat : Int), D.l t.L, D.l u.L, D.l v.L]))))) (T.ite (a.I == (5 : Int)) (T.need (decide ((0 : Int) ≤ c.I ∧ c.I < (q.I.toNat : Int))) (T.need (yes ((0 : Int) ≤ (c.I.toNat : Int) ∧ (c.I.toNat : Int) < (t.L.length : Int))) (T.need (yes (((q.I.toNat : Int) = (↑(List.length (hearL t.L (Int.toNat (c.I.toNat : Int)) (a.I == (4 : Int)) true b.I)) : Int) ∧ (r.I.toNat : Int) = (u.L.length : Int) ∧ (s.I.toNat : Int) = (v.L.length : Int)) ∧ (0 : Int) ≤ c.I ∧ c.I < (u.L.length : Int))) (T.leaf [D.i 0, D.i e.I, D.i f.I, D.i g.I, D.i h.I, D.i i.I, D.i j.I, D.b k.B, D.i l.I, D.b m.B, D.b n.B, D.i o.I, D.b p.B, D.i (↑(Int.toNat (q.I.toNat : Int)) : Int), D.i (↑(Int.toNat (r.I.toNat : Int)) : Int), D.i (↑(Int.toNat (s.I.toNat : Int)) : Int), D.l (hearL t.L (Int.toNat (c.I.toNat : Int)) (a.I == (4 : Int)) true b.I), D.l (hearL u.L c.I.toNat true true b.I), D.l v.L])))) (T.ite (a.I == (8 : Int)) (T.need (decide (d.I.toNat < v.L.length)) (T.ite (D.B (List.getD (List.getD v.L d.I.toNat []) 0 default)) (T.need (decide (d.I.toNat < v.L.length)) (T.need (decide (d.I.toNat < v.L.length)) (T.need (yes (((q.I.toNat : Int) = (t.L.length : Int) ∧ (r.I.toNat : Int) = (u.L.length : Int) ∧ (s.I.toNat : Int) = (↑(List.length (List.set v.L d.I.toNat (updC (List.getD v.L d.I.toNat []) [D.i (if c.I > D.I (List.getD (List.getD v.L d.I.toNat []) (0 + 1 + 1) default) then c.I else D.I (List.getD (List.getD v.L d.I.toNat []) (0 + 1 + 1) default))] (0 + 2) 0 (List.length [K.bool, K.int IntKind.i64, K.int IntKind.i64, K.bool, K.bool])))) : Int)) ∧ (0 : Int) ≤ c.I ∧ c.I < (u.L.length : Int))) (T.leaf [D.i 0, D.i e.I, D.i f.I, D.i g.I, D.i h.I, D.i i.I, D.i j.I, D.b k.B, D.i l.I, D.b m.B, D.b n.B, D.i o.I, D.b p.B, D.i (↑(Int.toNat (q.I.toNat : Int)) : Int), D.i (↑(Int.toNat (r.I.toNat : Int)) : Int), D.i (↑(Int.toNat (s.I.toNat : Int)) : Int), D.l t.L, D.l (hearL u.L c.I.toNat true true b.I), D.l (List.set v.L d.I.toNat (updC (List.getD v.L d.I.toNat []) [D.i (if c.I > D.I (List.getD (List.getD v.L d.I.toNat []) (0 + 1 + 1) default) then c.I else D.I (List.getD (List.getD v.L d.I.toNat []) (0 + 1 + 1) default))] (0 + 2) 0 (List.length [K.bool, K.int IntKind.i64, K.int IntKind.i64, K.bool, K.bool])))])))) (T.need (yes (((q.I.toNat : Int) = (t.L.length : Int) ∧ (r.I.toNat : Int) = (u.L.length : Int) ∧ (s.I.toNat : Int) = (v.L.length : Int)) ∧ (0 : Int) ≤ c.I ∧ c.I < (u.L.length : Int))) (T.leaf [D.i 0, D.i e.I, D.i f.I, D.i g.I, D.i h.I, D.i i.I, D.i j.I, D.b k.B, D.i l.I, D.b m.B, D.b n.B, D.i o.I, D.b p.B, D.i (↑(Int.toNat (q.I.toNat : Int)) : Int), D.i (↑(Int.toNat (r.I.toNat : Int)) : Int), D.i (↑(Int.toNat (s.I.toNat : Int)) : Int), D.l t.L, D.l (hearL u.L c.I.toNat true true b.I), D.l v.L])))) (T.ite (a.I == (9 : Int)) (T.need (decide (d.I.toNat < v.L.length)) (T.ite (D.B (List.getD (List.getD v.L d.I.toNat []) (0 + 1 + 1 + 1) default)) (T.need (decide (d.I.toNat < v.L.length)) (T.leaf [D.i 0, D.i e.I, D.i f.I, D.i g.I, D.i h.I, D.i i.I, D.i j.I, D.b k.B, D.i l.I, D.b m.B, D.b n.B, D.i o.I, D.b p.B, D.i (q.I.toNat : Int), D.i (r.I.toNat : Int), D.i (s.I.toNat : Int), D.l t.L, D.l u.L, D.l (List.set v.L d.I.toNat (updC (List.getD v.L d.I.toNat []) [D.b true] (0 + 3) 0 (List.length [K.bool, K.int IntKind.i64, K.int IntKind.i64, K.bool, K.bool])))])) (T.need (decide (d.I.toNat < v.L.length)) (T.need (decide (d.I.toNat < v.L.length)) (T.leaf [D.i 0, D.i e.I, D.i f.I, D.i g.I, D.i h.I, D.i i.I, D.i j.I, D.b k.B, D.i l.I, D.b m.B, D.b n.B, D.i o.I, D.b p.B, D.i (q.I.toNat : Int), D.i (r.I.toNat : Int), D.i (s.I.toNat : Int), D.l t.L, D.l u.L, D.l (List.set v.L d.I.toNat (updC (List.getD v.L d.I.toNat []) [D.b (D.B (List.getD (List.getD v.L d.I.toNat []) 0 default))] (0 + 3) 0 (List.length [K.bool, K.int IntKind.i64, K.int IntKind.i64, K.bool, K.bool])))]))))) (T.ite (a.I == (10 : Int)) (T.need (decide (d.I.toNat < v.L.length)) (T.ite (D.B (List.getD (List.getD v.L d.I.toNat []) (0 + 1 + 1 + 1 + 1) default)) (T.need (decide (d.I.toNat < v.L.length)) (T.leaf [D.i 0, D.i e.I, D.i f.I, D.i g.I, D.i h.I, D.i i.I, D.i j.I, D.b k.B, D.i l.I, D.b m.B, D.b n.B, D.i o.I, D.b p.B, D.i (q.I.toNat : Int), D.i (r.I.toNat : Int), D.i (s.I.toNat : Int), D.l t.L, D.l u.L, D.l (List.set v.L d.I.toNat (updC (List.getD v.L d.I.toNat []) [D.b true] (0 + 4) 0 (List.length [K.bool, K.int IntKind.i64, K.int IntKind.i64, K.bool, K.bool])))])) (T.need (decide (d.I.toNat < v.L.length)) (T.need (decide (d.I.toNat < v.L.length)) (T.leaf [D.i 0, D.i e.I, D.i f.I, D.i g.I, D.i h.I, D.i i.I, D.i j.I, D.b k.B, D.i l.I, D.b m.B, D.b n.B, D.i o.I, D.b p.B, D.i (q.I.toNat : Int), D.i (r.I.toNat : Int), D.i (s.I.toNat : Int), D.l t.L, D.l u.L, D.l (List.set v.L d.I.toNat (updC (List.getD v.L d.I.toNat []) [D.b (D.B (List.getD (List.getD v.L d.I.toNat []) 0 default))] (0 + 4) 0 (List.length [K.bool, K.int IntKind.i64, K.int IntKind.i64, K.bool, K.bool])))]))))) (T.leaf [D.i 0, D.i e.I, D.i f.I, D.i g.I, D.i h.I, D.i i.I, D.i j.I, D.b k.B, D.i l.I, D.b m.B, D.b n.B, D.i o.I, D.b p.B, D.i (q.I.toNat : Int), D.i (r.I.toNat : Int), D.i (s.I.toNat : Int), D.l t.L, D.l u.L, D.l v.L]))))))))))))))))))))) := by kernel_rfl
end Go.Proofs.Ytgmefblkmidglaa
namespace Go.Proofs.Ytgmefblkmidglaa
open Go.Lite
set_option linter.unusedVariables false
set_option maxRecDepth 100000
theorem t1064 (a b c d e f g h i j k l m n o p q r s t u : D) : (fnTW C tab1064 64 s1064 [a, b, c, d, e, f, g, h, i, j, k, l, m, n, o, p, q, r, s, t, u]).run =
  T.run (T.ite (!l.B) (T.leaf [D.i d.I, D.i e.I, D.i f.I, D.i g.I, D.i h.I, D.i i.I, D.b a.B, D.i (if b.I > k.I then b.I else k.I), D.b true, D.b m.B, D.i n.I, D.b o.B, D.i (p.I.toNat : Int), D.i (q.I.toNat : Int), D.i (r.I.toNat : Int), D.l s.L, D.l t.L, D.l u.L]) (T.ite (decide (b.I > k.I)) (T.leaf [D.i d.I, D.i e.I, D.i f.I, D.i g.I, D.i h.I, D.i i.I, D.b a.B, D.i (if b.I > k.I then b.I else k.I), D.b true, D.b m.B, D.i n.I, D.b o.B, D.i (p.I.toNat : Int), D.i (q.I.toNat : Int), D.i (r.I.toNat : Int), D.l s.L, D.l t.L, D.l u.L]) (T.ite (b.I == k.I) (T.ite (a.B == c.B) (T.leaf [D.i d.I, D.i e.I, D.i f.I, D.i g.I, D.i h.I, D.i i.I, D.b a.B, D.i (if b.I > k.I then b.I else k.I), D.b true, D.b m.B, D.i n.I, D.b o.B, D.i (p.I.toNat : Int), D.i (q.I.toNat : Int), D.i (r.I.toNat : Int), D.l s.L, D.l t.L, D.l u.L]) (T.leaf [D.i d.I, D.i e.I, D.i f.I, D.i g.I, D.i h.I, D.i i.I, D.b j.B, D.i (if b.I > k.I then b.I else k.I), D.b true, D.b m.B, D.i n.I, D.b o.B, D.i (p.I.toNat : Int), D.i (q.I.toNat : Int), D.i (r.I.toNat : Int), D.l s.L, D.l t.L, D.l u.L])) (T.leaf [D.i d.I, D.i e.I, D.i f.I, D.i g.I, D.i h.I, D.i i.I, D.b j.B, D.i (if b.I > k.I then b.I else k.I), D.b true, D.b m.B, D.i n.I, D.b o.B, D.i (p.I.toNat : Int), D.i (q.I.toNat : Int), D.i (r.I.toNat : Int), D.l s.L, D.l t.L, D.l u.L])))) := by kernel_rfl
theorem t2064 (a b c d e f g h i j k l m n o p q r s t u : D) : (fnTW C tab2064 64 s2064 [a, b, c, d, e, f, g, h, i, j, k, l, m, n, o, p, q, r, s, t, u]).run =
  T.run (T.ite (!o.B) (T.leaf [D.i d.I, D.i e.I, D.i f.I, D.i g.I, D.i h.I, D.i i.I, D.b j.B, D.i k.I, D.b l.B, D.b a.B, D.i (if b.I > n.I then b.I else n.I), D.b true, D.i (p.I.toNat : Int), D.i (q.I.toNat : Int), D.i (r.I.toNat : Int), D.l s.L, D.l t.L, D.l u.L]) (T.ite (decide (b.I > n.I)) (T.leaf [D.i d.I, D.i e.I, D.i f.I, D.i g.I, D.i h.I, D.i i.I, D.b j.B, D.i k.I, D.b l.B, D.b a.B, D.i (if b.I > n.I then b.I else n.I), D.b true, D.i (p.I.toNat : Int), D.i (q.I.toNat : Int), D.i (r.I.toNat : Int), D.l s.L, D.l t.L, D.l u.L]) (T.ite (b.I == n.I) (T.ite (a.B == c.B) (T.leaf [D.i d.I, D.i e.I, D.i f.I, D.i g.I, D.i h.I, D.i i.I, D.b j.B, D.i k.I, D.b l.B, D.b a.B, D.i (if b.I > n.I then b.I else n.I), D.b true, D.i (p.I.toNat : Int), D.i (q.I.toNat : Int), D.i (r.I.toNat : Int), D.l s.L, D.l t.L, D.l u.L]) (T.leaf [D.i d.I, D.i e.I, D.i f.I, D.i g.I, D.i h.I, D.i i.I, D.b j.B, D.i k.I, D.b l.B, D.b m.B, D.i (if b.I > n.I then b.I else n.I), D.b true, D.i (p.I.toNat : Int), D.i (q.I.toNat : Int), D.i (r.I.toNat : Int), D.l s.L, D.l t.L, D.l u.L])) (T.leaf [D.i d.I, D.i e.I, D.i f.I, D.i g.I, D.i h.I, D.i i.I, D.b j.B, D.i k.I, D.b l.B, D.b m.B, D.i (if b.I > n.I then b.I else n.I), D.b true, D.i (p.I.toNat : Int), D.i (q.I.toNat : Int), D.i (r.I.toNat : Int), D.l s.L, D.l t.L, D.l u.L])))) := by kernel_rfl
theorem t3064 (a b c d e : D) : (fnTW C tab3064 64 s3064 [a, b, c, d, e]).run =
  T.run (T.need (decide (a.I.toNat < e.L.length)) (T.ite (!D.B (List.getD (List.getD e.L a.I.toNat []) (0 + 1 + 1) default)) (T.need (decide (a.I.toNat < e.L.length)) (T.need (decide (a.I.toNat < List.length (List.set e.L a.I.toNat (updC (List.getD e.L a.I.toNat []) [D.b b.B] (0 + 0) 0 (List.length [K.bool, K.int IntKind.i64, K.bool]))))) (T.need (decide (a.I.toNat < List.length (List.set e.L a.I.toNat (updC (List.getD e.L a.I.toNat []) [D.b b.B] (0 + 0) 0 (List.length [K.bool, K.int IntKind.i64, K.bool]))))) (T.need (decide (a.I.toNat < List.length (List.set (List.set e.L a.I.toNat (updC (List.getD e.L a.I.toNat []) [D.b b.B] (0 + 0) 0 (List.length [K.bool, K.int IntKind.i64, K.bool]))) a.I.toNat (updC (List.getD (List.set e.L a.I.toNat (updC (List.getD e.L a.I.toNat []) [D.b b.B] (0 + 0) 0 (List.length [K.bool, K.int IntKind.i64, K.bool]))) a.I.toNat []) [D.i (if c.I > D.I (List.getD (List.getD (List.set e.L a.I.toNat (updC (List.getD e.L a.I.toNat []) [D.b b.B] (0 + 0) 0 (List.length [K.bool, K.int IntKind.i64, K.bool]))) a.I.toNat []) (0 + 1) default) then c.I else D.I (List.getD (List.getD (List.set e.L a.I.toNat (updC (List.getD e.L a.I.toNat []) [D.b b.B] (0 + 0) 0 (List.length [K.bool, K.int IntKind.i64, K.bool]))) a.I.toNat []) (0 + 1) default))] (0 + 1) 0 (List.length [K.bool, K.int IntKind.i64, K.bool]))))) (T.leaf [D.l (List.set (List.set (List.set e.L a.I.toNat (updC (List.getD e.L a.I.toNat []) [D.b b.B] (0 + 0) 0 (List.length [K.bool, K.int IntKind.i64, K.bool]))) a.I.toNat (updC (List.getD (List.set e.L a.I.toNat (updC (List.getD e.L a.I.toNat []) [D.b b.B] (0 + 0) 0 (List.length [K.bool, K.int IntKind.i64, K.bool]))) a.I.toNat []) [D.i (if c.I > D.I (List.getD (List.getD (List.set e.L a.I.toNat (updC (List.getD e.L a.I.toNat []) [D.b b.B] (0 + 0) 0 (List.length [K.bool, K.int IntKind.i64, K.bool]))) a.I.toNat []) (0 + 1) default) then c.I else D.I (List.getD (List.getD (List.set e.L a.I.toNat (updC (List.getD e.L a.I.toNat []) [D.b b.B] (0 + 0) 0 (List.length [K.bool, K.int IntKind.i64, K.bool]))) a.I.toNat []) (0 + 1) default))] (0 + 1) 0 (List.length [K.bool, K.int IntKind.i64, K.bool]))) a.I.toNat (updC (List.getD (List.set (List.set e.L a.I.toNat (updC (List.getD e.L a.I.toNat []) [D.b b.B] (0 + 0) 0 (List.length [K.bool, K.int IntKind.i64, K.bool]))) a.I.toNat (updC (List.getD (List.set e.L a.I.toNat (updC (List.getD e.L a.I.toNat []) [D.b b.B] (0 + 0) 0 (List.length [K.bool, K.int IntKind.i64, K.bool]))) a.I.toNat []) [D.i (if c.I > D.I (List.getD (List.getD (List.set e.L a.I.toNat (updC (List.getD e.L a.I.toNat []) [D.b b.B] (0 + 0) 0 (List.length [K.bool, K.int IntKind.i64, K.bool]))) a.I.toNat []) (0 + 1) default) then c.I else D.I (List.getD (List.getD (List.set e.L a.I.toNat (updC (List.getD e.L a.I.toNat []) [D.b b.B] (0 + 0) 0 (List.length [K.bool, K.int IntKind.i64, K.bool]))) a.I.toNat []) (0 + 1) default))] (0 + 1) 0 (List.length [K.bool, K.int IntKind.i64, K.bool]))) a.I.toNat []) [D.b true] (0 + 2) 0 (List.length [K.bool, K.int IntKind.i64, K.bool])))]))))) (T.need (decide (a.I.toNat < e.L.length)) (T.ite (decide (c.I > D.I (List.getD (List.getD e.L a.I.toNat []) (0 + 1) default))) (T.need (decide (a.I.toNat < e.L.length)) (T.need (decide (a.I.toNat < List.length (List.set e.L a.I.toNat (updC (List.getD e.L a.I.toNat []) [D.b b.B] (0 + 0) 0 (List.length [K.bool, K.int IntKind.i64, K.bool]))))) (T.need (decide (a.I.toNat < List.length (List.set e.L a.I.toNat (updC (List.getD e.L a.I.toNat []) [D.b b.B] (0 + 0) 0 (List.length [K.bool, K.int IntKind.i64, K.bool]))))) (T.need (decide (a.I.toNat < List.length (List.set (List.set e.L a.I.toNat (updC (List.getD e.L a.I.toNat []) [D.b b.B] (0 + 0) 0 (List.length [K.bool, K.int IntKind.i64, K.bool]))) a.I.toNat (updC (List.getD (List.set e.L a.I.toNat (updC (List.getD e.L a.I.toNat []) [D.b b.B] (0 + 0) 0 (List.length [K.bool, K.int IntKind.i64, K.bool]))) a.I.toNat []) [D.i (if c.I > D.I (List.getD (List.getD (List.set e.L a.I.toNat (updC (List.getD e.L a.I.toNat []) [D.b b.B] (0 + 0) 0 (List.length [K.bool, K.int IntKind.i64, K.bool]))) a.I.toNat []) (0 + 1) default) then c.I else D.I (List.getD (List.getD (List.set e.L a.I.toNat (updC (List.getD e.L a.I.toNat []) [D.b b.B] (0 + 0) 0 (List.length [K.bool, K.int IntKind.i64, K.bool]))) a.I.toNat []) (0 + 1) default))] (0 + 1) 0 (List.length [K.bool, K.int IntKind.i64, K.bool]))))) (T.leaf [D.l (List.set (List.set (List.set e.L a.I.toNat (updC (List.getD e.L a.I.toNat []) [D.b b.B] (0 + 0) 0 (List.length [K.bool, K.int IntKind.i64, K.bool]))) a.I.toNat (updC (List.getD (List.set e.L a.I.toNat (updC (List.getD e.L a.I.toNat []) [D.b b.B] (0 + 0) 0 (List.length [K.bool, K.int IntKind.i64, K.bool]))) a.I.toNat []) [D.i (if c.I > D.I (List.getD (List.getD (List.set e.L a.I.toNat (updC (List.getD e.L a.I.toNat []) [D.b b.B] (0 + 0) 0 (List.length [K.bool, K.int IntKind.i64, K.bool]))) a.I.toNat []) (0 + 1) default) then c.I else D.I (List.getD (List.getD (List.set e.L a.I.toNat (updC (List.getD e.L a.I.toNat []) [D.b b.B] (0 + 0) 0 (List.length [K.bool, K.int IntKind.i64, K.bool]))) a.I.toNat []) (0 + 1) default))] (0 + 1) 0 (List.length [K.bool, K.int IntKind.i64, K.bool]))) a.I.toNat (updC (List.getD (List.set (List.set e.L a.I.toNat (updC (List.getD e.L a.I.toNat []) [D.b b.B] (0 + 0) 0 (List.length [K.bool, K.int IntKind.i64, K.bool]))) a.I.toNat (updC (List.getD (List.set e.L a.I.toNat (updC (List.getD e.L a.I.toNat []) [D.b b.B] (0 + 0) 0 (List.length [K.bool, K.int IntKind.i64, K.bool]))) a.I.toNat []) [D.i (if c.I > D.I (List.getD (List.getD (List.set e.L a.I.toNat (updC (List.getD e.L a.I.toNat []) [D.b b.B] (0 + 0) 0 (List.length [K.bool, K.int IntKind.i64, K.bool]))) a.I.toNat []) (0 + 1) default) then c.I else D.I (List.getD (List.getD (List.set e.L a.I.toNat (updC (List.getD e.L a.I.toNat []) [D.b b.B] (0 + 0) 0 (List.length [K.bool, K.int IntKind.i64, K.bool]))) a.I.toNat []) (0 + 1) default))] (0 + 1) 0 (List.length [K.bool, K.int IntKind.i64, K.bool]))) a.I.toNat []) [D.b true] (0 + 2) 0 (List.length [K.bool, K.int IntKind.i64, K.bool])))]))))) (T.need (decide (a.I.toNat < e.L.length)) (T.ite (c.I == D.I (List.getD (List.getD e.L a.I.toNat []) (0 + 1) default)) (T.ite (b.B == d.B) (T.need (decide (a.I.toNat < e.L.length)) (T.need (decide (a.I.toNat < List.length (List.set e.L a.I.toNat (updC (List.getD e.L a.I.toNat []) [D.b b.B] (0 + 0) 0 (List.length [K.bool, K.int IntKind.i64, K.bool]))))) (T.need (decide (a.I.toNat < List.length (List.set e.L a.I.toNat (updC (List.getD e.L a.I.toNat []) [D.b b.B] (0 + 0) 0 (List.length [K.bool, K.int IntKind.i64, K.bool]))))) (T.need (decide (a.I.toNat < List.length (List.set (List.set e.L a.I.toNat (updC (List.getD e.L a.I.toNat []) [D.b b.B] (0 + 0) 0 (List.length [K.bool, K.int IntKind.i64, K.bool]))) a.I.toNat (updC (List.getD (List.set e.L a.I.toNat (updC (List.getD e.L a.I.toNat []) [D.b b.B] (0 + 0) 0 (List.length [K.bool, K.int IntKind.i64, K.bool]))) a.I.toNat []) [D.i (if c.I > D.I (List.getD (List.getD (List.set e.L a.I.toNat (updC (List.getD e.L a.I.toNat []) [D.b b.B] (0 + 0) 0 (List.length [K.bool, K.int IntKind.i64, K.bool]))) a.I.toNat []) (0 + 1) default) then c.I else D.I (List.getD (List.getD (List.set e.L a.I.toNat (updC (List.getD e.L a.I.toNat []) [D.b b.B] (0 + 0) 0 (List.length [K.bool, K.int IntKind.i64, K.bool]))) a.I.toNat []) (0 + 1) default))] (0 + 1) 0 (List.length [K.bool, K.int IntKind.i64, K.bool]))))) (T.leaf [D.l (List.set (List.set (List.set e.L a.I.toNat (updC (List.getD e.L a.I.toNat []) [D.b b.B] (0 + 0) 0 (List.length [K.bool, K.int IntKind.i64, K.bool]))) a.I.toNat (updC (List.getD (List.set e.L a.I.toNat (updC (List.getD e.L a.I.toNat []) [D.b b.B] (0 + 0) 0 (List.length [K.bool, K.int IntKind.i64, K.bool]))) a.I.toNat []) [D.i (if c.I > D.I (List.getD (List.getD (List.set e.L a.I.toNat (updC (List.getD e.L a.I.toNat []) [D.b b.B] (0 + 0) 0 (List.length [K.bool, K.int IntKind.i64, K.bool]))) a.I.toNat []) (0 + 1) default) then c.I else D.I (List.getD (List.getD (List.set e.L a.I.toNat (updC (List.getD e.L a.I.toNat []) [D.b b.B] (0 + 0) 0 (List.length [K.bool, K.int IntKind.i64, K.bool]))) a.I.toNat []) (0 + 1) default))] (0 + 1) 0 (List.length [K.bool, K.int IntKind.i64, K.bool]))) a.I.toNat (updC (List.getD (List.set (List.set e.L a.I.toNat (updC (List.getD e.L a.I.toNat []) [D.b b.B] (0 + 0) 0 (List.length [K.bool, K.int IntKind.i64, K.bool]))) a.I.toNat (updC (List.getD (List.set e.L a.I.toNat (updC (List.getD e.L a.I.toNat []) [D.b b.B] (0 + 0) 0 (List.length [K.bool, K.int IntKind.i64, K.bool]))) a.I.toNat []) [D.i (if c.I > D.I (List.getD (List.getD (List.set e.L a.I.toNat (updC (List.getD e.L a.I.toNat []) [D.b b.B] (0 + 0) 0 (List.length [K.bool, K.int IntKind.i64, K.bool]))) a.I.toNat []) (0 + 1) default) then c.I else D.I (List.getD (List.getD (List.set e.L a.I.toNat (updC (List.getD e.L a.I.toNat []) [D.b b.B] (0 + 0) 0 (List.length [K.bool, K.int IntKind.i64, K.bool]))) a.I.toNat []) (0 + 1) default))] (0 + 1) 0 (List.length [K.bool, K.int IntKind.i64, K.bool]))) a.I.toNat []) [D.b true] (0 + 2) 0 (List.length [K.bool, K.int IntKind.i64, K.bool])))]))))) (T.need (decide (a.I.toNat < e.L.length)) (T.need (decide (a.I.toNat < e.L.length)) (T.need (decide (a.I.toNat < List.length (List.set e.L a.I.toNat (updC (List.getD e.L a.I.toNat []) [D.i (if c.I > D.I (List.getD (List.getD e.L a.I.toNat []) (0 + 1) default) then c.I else D.I (List.getD (List.getD e.L a.I.toNat []) (0 + 1) default))] (0 + 1) 0 (List.length [K.bool, K.int IntKind.i64, K.bool]))))) (T.leaf [D.l (List.set (List.set e.L a.I.toNat (updC (List.getD e.L a.I.toNat []) [D.i (if c.I > D.I (List.getD (List.getD e.L a.I.toNat []) (0 + 1) default) then c.I else D.I (List.getD (List.getD e.L a.I.toNat []) (0 + 1) default))] (0 + 1) 0 (List.length [K.bool, K.int IntKind.i64, K.bool]))) a.I.toNat (updC (List.getD (List.set e.L a.I.toNat (updC (List.getD e.L a.I.toNat []) [D.i (if c.I > D.I (List.getD (List.getD e.L a.I.toNat []) (0 + 1) default) then c.I else D.I (List.getD (List.getD e.L a.I.toNat []) (0 + 1) default))] (0 + 1) 0 (List.length [K.bool, K.int IntKind.i64, K.bool]))) a.I.toNat []) [D.b true] (0 + 2) 0 (List.length [K.bool, K.int IntKind.i64, K.bool])))]))))) (T.need (decide (a.I.toNat < e.L.length)) (T.need (decide (a.I.toNat < e.L.length)) (T.need (decide (a.I.toNat < List.length (List.set e.L a.I.toNat (updC (List.getD e.L a.I.toNat []) [D.i (if c.I > D.I (List.getD (List.getD e.L a.I.toNat []) (0 + 1) default) then c.I else D.I (List.getD (List.getD e.L a.I.toNat []) (0 + 1) default))] (0 + 1) 0 (List.length [K.bool, K.int IntKind.i64, K.bool]))))) (T.leaf [D.l (List.set (List.set e.L a.I.toNat (updC (List.getD e.L a.I.toNat []) [D.i (if c.I > D.I (List.getD (List.getD e.L a.I.toNat []) (0 + 1) default) then c.I else D.I (List.getD (List.getD e.L a.I.toNat []) (0 + 1) default))] (0 + 1) 0 (List.length [K.bool, K.int IntKind.i64, K.bool]))) a.I.toNat (updC (List.getD (List.set e.L a.I.toNat (updC (List.getD e.L a.I.toNat []) [D.i (if c.I > D.I (List.getD (List.getD e.L a.I.toNat []) (0 + 1) default) then c.I else D.I (List.getD (List.getD e.L a.I.toNat []) (0 + 1) default))] (0 + 1) 0 (List.length [K.bool, K.int IntKind.i64, K.bool]))) a.I.toNat []) [D.b true] (0 + 2) 0 (List.length [K.bool, K.int IntKind.i64, K.bool])))])))))))))) := by kernel_rfl
theorem t63 (a b c d e f g h i j k l m n o p q r s t u v : D) : (fnTW C tab63 63 s63 [a, b, c, d, e, f, g, h, i, j, k, l, m, n, o, p, q, r, s, t, u, v]).run =
  T.run (T.need (decide ((0 : Int) ≤ c.I ∧ c.I < (r.I.toNat : Int))) (T.need (yes ((0 : Int) ≤ (c.I.toNat : Int) ∧ (c.I.toNat : Int) < (u.L.length : Int))) (T.leaf [D.i a.I, D.i b.I, D.i c.I, D.i d.I, D.i e.I, D.i f.I, D.i g.I, D.i h.I, D.i i.I, D.i j.I, D.b k.B, D.i l.I, D.b m.B, D.b n.B, D.i o.I, D.b p.B, D.i (q.I.toNat : Int), D.i (r.I.toNat : Int), D.i (s.I.toNat : Int), D.l t.L, D.l (hearL u.L (Int.toNat (c.I.toNat : Int)) true true b.I), D.l v.L]))) := by kernel_rfl
theorem t39 (a b c d e f g h i j k l m n o p q r s t : D) : (fnTW C tab39 39 s39 [a, b, c, d, e, f, g, h, i, j, k, l, m, n, o, p, q, r, s, t]).run =
  T.run (T.need (yes (okG c.I d.I e.I f.I g.I h.I (o.I.toNat : Int) (p.I.toNat : Int) (q.I.toNat : Int) r.L s.L t.L ∧ tOK j.I ∧ tOK m.I)) (T.ite (validB h.I a.I b.I) (T.ite (List.isEmpty (rulesF (ruleB c.I d.I e.I f.I g.I i.B l.B r.L s.L t.L a.I b.I) 0 8 [])) (T.need (decide ((0 : Int) ≤ a.I ∧ a.I < (↑(Int.toNat (q.I.toNat : Int)) : Int))) (T.need (decide (a.I.toNat < t.L.length)) (T.need (decide ((0 : Int) ≤ a.I ∧ a.I < (↑(Int.toNat (q.I.toNat : Int)) : Int))) (T.need (decide (a.I.toNat < List.length (List.set t.L a.I.toNat (updC (List.getD t.L a.I.toNat []) [D.b true] (0 + 0) 0 (List.length [K.bool, K.int IntKind.i64, K.int IntKind.i64, K.bool, K.bool]))))) (T.leaf [D.i 0, D.i c.I, D.i d.I, D.i e.I, D.i f.I, D.i g.I, D.i h.I, D.b i.B, D.i j.I, D.b k.B, D.b l.B, D.i m.I, D.b n.B, D.i (↑(Int.toNat (o.I.toNat : Int)) : Int), D.i (↑(Int.toNat (p.I.toNat : Int)) : Int), D.i (↑(Int.toNat (q.I.toNat : Int)) : Int), D.l r.L, D.l s.L, D.l (List.set (List.set t.L a.I.toNat (updC (List.getD t.L a.I.toNat []) [D.b true] (0 + 0) 0 (List.length [K.bool, K.int IntKind.i64, K.int IntKind.i64, K.bool, K.bool]))) a.I.toNat (updC (List.getD (List.set t.L a.I.toNat (updC (List.getD t.L a.I.toNat []) [D.b true] (0 + 0) 0 (List.length [K.bool, K.int IntKind.i64, K.int IntKind.i64, K.bool, K.bool]))) a.I.toNat []) [D.i b.I] (0 + 1) 0 (List.length [K.bool, K.int IntKind.i64, K.int IntKind.i64, K.bool, K.bool])))]))))) (T.ite (decide ((↑(Int.toNat (↑(List.length (rulesF (ruleB c.I d.I e.I f.I g.I i.B l.B r.L s.L t.L a.I b.I) 0 8 [])) : Int)) : Int) > (0 : Int))) (T.leaf [D.i 7, D.i c.I, D.i d.I, D.i e.I, D.i f.I, D.i g.I, D.i h.I, D.b i.B, D.i j.I, D.b k.B, D.b l.B, D.i m.I, D.b n.B, D.i (↑(Int.toNat (o.I.toNat : Int)) : Int), D.i (↑(Int.toNat (p.I.toNat : Int)) : Int), D.i (↑(Int.toNat (q.I.toNat : Int)) : Int), D.l r.L, D.l s.L, D.l t.L]) (T.need (decide ((0 : Int) ≤ a.I ∧ a.I < (↑(Int.toNat (q.I.toNat : Int)) : Int))) (T.need (decide (a.I.toNat < t.L.length)) (T.need (decide ((0 : Int) ≤ a.I ∧ a.I < (↑(Int.toNat (q.I.toNat : Int)) : Int))) (T.need (decide (a.I.toNat < List.length (List.set t.L a.I.toNat (updC (List.getD t.L a.I.toNat []) [D.b true] (0 + 0) 0 (List.length [K.bool, K.int IntKind.i64, K.int IntKind.i64, K.bool, K.bool]))))) (T.leaf [D.i 0, D.i c.I, D.i d.I, D.i e.I, D.i f.I, D.i g.I, D.i h.I, D.b i.B, D.i j.I, D.b k.B, D.b l.B, D.i m.I, D.b n.B, D.i (↑(Int.toNat (o.I.toNat : Int)) : Int), D.i (↑(Int.toNat (p.I.toNat : Int)) : Int), D.i (↑(Int.toNat (q.I.toNat : Int)) : Int), D.l r.L, D.l s.L, D.l (List.set (List.set t.L a.I.toNat (updC (List.getD t.L a.I.toNat []) [D.b true] (0 + 0) 0 (List.length [K.bool, K.int IntKind.i64, K.int IntKind.i64, K.bool, K.bool]))) a.I.toNat (updC (List.getD (List.set t.L a.I.toNat (updC (List.getD t.L a.I.toNat []) [D.b true] (0 + 0) 0 (List.length [K.bool, K.int IntKind.i64, K.int IntKind.i64, K.bool, K.bool]))) a.I.toNat []) [D.i b.I] (0 + 1) 0 (List.length [K.bool, K.int IntKind.i64, K.int IntKind.i64, K.bool, K.bool])))]))))))) (T.leaf [D.i 2, D.i c.I, D.i d.I, D.i e.I, D.i f.I, D.i g.I, D.i h.I, D.b i.B, D.i j.I, D.b k.B, D.b l.B, D.i m.I, D.b n.B, D.i (↑(Int.toNat (o.I.toNat : Int)) : Int), D.i (↑(Int.toNat (p.I.toNat : Int)) : Int), D.i (↑(Int.toNat (q.I.toNat : Int)) : Int), D.l r.L, D.l s.L, D.l t.L]))) := by kernel_rfl
theorem t42 (a b c d e f g h i j k l m n o p : D) : (fnT C tab42 42 s42 [a, b, c, d, e, f, g, h, i, j, k, l, m, n, o, p]).run =
  T.run (T.ite (!decide (0 < o.L.length)) (T.leaf [D.b false, D.i 0, D.i 0, D.b false, D.b false, D.i 1]) (T.ite (!within p.I (0 : Int) (IntKind.wrap IntKind.i64 (f.I - (1 : Int)))) (T.leaf [D.b false, D.i 0, D.i 0, D.b false, D.b false, D.i 2]) (T.need (decide ((0 : Int) ≤ p.I ∧ p.I < (o.L.length : Int))) (T.leaf [D.b (D.B (List.getD (List.getD o.L p.I.toNat []) 0 default)), D.i (D.I (List.getD (List.getD o.L p.I.toNat []) (0 + 1) default)), D.i (D.I (List.getD (List.getD o.L p.I.toNat []) (0 + 1 + 1) default)), D.b (D.B (List.getD (List.getD o.L p.I.toNat []) (0 + 1 + 1 + 1) default)), D.b (D.B (List.getD (List.getD o.L p.I.toNat []) (0 + 1 + 1 + 1 + 1) default)), D.i 0])))) := by kernel_rfl
end Go.Proofs.Ytgmefblkmidglaa
namespace Go.Proofs.Ytgmefblkmidglaa
open Go.Lite
set_option linter.unusedVariables false
set_option maxRecDepth 100000
theorem t45 (a b c : D) : (fnT C tab45 45 s45 [a, b, c]).run =
  T.run (T.ite (decide (a.I ≥ b.I)) (T.leaf [D.b (decide (a.I ≤ c.I))]) (T.leaf [D.b false])) := by kernel_rfl
theorem t47 (a b c : D) : (fnT C tab47 47 s47 [a, b, c]).run =
  T.run (T.ite (decide (a.I ≥ b.I)) (T.leaf [D.b (decide (a.I ≤ c.I))]) (T.leaf [D.b false])) := by kernel_rfl
theorem t61 (a b c d e f g h i j k l m n o : D) : (fnT C tab61 61 s61 [a, b, c, d, e, f, g, h, i, j, k, l, m, n, o]).run =
  T.run (T.leaf [D.b (decide ((o.L.length : Int) > (0 : Int)))]) := by kernel_rfl
theorem t62 (a b c d e f g h i j k l m n o p q r s : D) : (fnT C tab62 62 s62 [a, b, c, d, e, f, g, h, i, j, k, l, m, n, o, p, q, r, s]).run =
  T.run (T.ite (p.I == (3 : Int)) (T.ite (p.I == (8 : Int)) (T.ite (decide (p.I < (1 : Int))) (T.leaf [D.b false]) (T.ite (decide (p.I > (10 : Int))) (T.leaf [D.b false]) (T.ite (!within q.I (0 : Int) (100000 : Int)) (T.leaf [D.b false]) (T.ite (within r.I (0 : Int) (IntKind.wrap IntKind.i64 (a.I - (1 : Int)))) (T.leaf [D.b (within s.I (0 : Int) (IntKind.wrap IntKind.i64 (f.I - (1 : Int))))]) (T.leaf [D.b false]))))) (T.ite (p.I == (9 : Int)) (T.ite (decide (p.I < (1 : Int))) (T.leaf [D.b false]) (T.ite (decide (p.I > (10 : Int))) (T.leaf [D.b false]) (T.ite (!within q.I (0 : Int) (100000 : Int)) (T.leaf [D.b false]) (T.ite (within r.I (0 : Int) (IntKind.wrap IntKind.i64 (a.I - (1 : Int)))) (T.leaf [D.b (within s.I (0 : Int) (IntKind.wrap IntKind.i64 (f.I - (1 : Int))))]) (T.leaf [D.b false]))))) (T.ite (decide (p.I < (1 : Int))) (T.leaf [D.b false]) (T.ite (decide (p.I > (10 : Int))) (T.leaf [D.b false]) (T.ite (!within q.I (0 : Int) (100000 : Int)) (T.leaf [D.b false]) (T.ite (!p.I == (10 : Int)) (T.ite (s.I != (0 : Int)) (T.leaf [D.b false]) (T.ite (within r.I (0 : Int) (IntKind.wrap IntKind.i64 (a.I - (1 : Int)))) (T.leaf [D.b (within s.I (0 : Int) (IntKind.wrap IntKind.i64 (f.I - (1 : Int))))]) (T.leaf [D.b false]))) (T.ite (within r.I (0 : Int) (IntKind.wrap IntKind.i64 (a.I - (1 : Int)))) (T.leaf [D.b (within s.I (0 : Int) (IntKind.wrap IntKind.i64 (f.I - (1 : Int))))]) (T.leaf [D.b false])))))))) (T.ite (p.I == (4 : Int)) (T.ite (p.I == (8 : Int)) (T.ite (decide (p.I < (1 : Int))) (T.leaf [D.b false]) (T.ite (decide (p.I > (10 : Int))) (T.leaf [D.b false]) (T.ite (!within q.I (0 : Int) (100000 : Int)) (T.leaf [D.b false]) (T.ite (within r.I (0 : Int) (IntKind.wrap IntKind.i64 (a.I - (1 : Int)))) (T.leaf [D.b (within s.I (0 : Int) (IntKind.wrap IntKind.i64 (f.I - (1 : Int))))]) (T.leaf [D.b false]))))) (T.ite (p.I == (9 : Int)) (T.ite (decide (p.I < (1 : Int))) (T.leaf [D.b false]) (T.ite (decide (p.I > (10 : Int))) (T.leaf [D.b false]) (T.ite (!within q.I (0 : Int) (100000 : Int)) (T.leaf [D.b false]) (T.ite (within r.I (0 : Int) (IntKind.wrap IntKind.i64 (a.I - (1 : Int)))) (T.leaf [D.b (within s.I (0 : Int) (IntKind.wrap IntKind.i64 (f.I - (1 : Int))))]) (T.leaf [D.b false]))))) (T.ite (decide (p.I < (1 : Int))) (T.leaf [D.b false]) (T.ite (decide (p.I > (10 : Int))) (T.leaf [D.b false]) (T.ite (!within q.I (0 : Int) (100000 : Int)) (T.leaf [D.b false]) (T.ite (!p.I == (10 : Int)) (T.ite (s.I != (0 : Int)) (T.leaf [D.b false]) (T.ite (within r.I (0 : Int) (IntKind.wrap IntKind.i64 (a.I - (1 : Int)))) (T.leaf [D.b (within s.I (0 : Int) (IntKind.wrap IntKind.i64 (f.I - (1 : Int))))]) (T.leaf [D.b false]))) (T.ite (within r.I (0 : Int) (IntKind.wrap IntKind.i64 (a.I - (1 : Int)))) (T.leaf [D.b (within s.I (0 : Int) (IntKind.wrap IntKind.i64 (f.I - (1 : Int))))]) (T.leaf [D.b false])))))))) (T.ite (p.I == (5 : Int)) (T.ite (p.I == (8 : Int)) (T.ite (decide (p.I < (1 : Int))) (T.leaf [D.b false]) (T.ite (decide (p.I > (10 : Int))) (T.leaf [D.b false]) (T.ite (!within q.I (0 : Int) (100000 : Int)) (T.leaf [D.b false]) (T.ite (within r.I (0 : Int) (IntKind.wrap IntKind.i64 (a.I - (1 : Int)))) (T.leaf [D.b (within s.I (0 : Int) (IntKind.wrap IntKind.i64 (f.I - (1 : Int))))]) (T.leaf [D.b false]))))) (T.ite (p.I == (9 : Int)) (T.ite (decide (p.I < (1 : Int))) (T.leaf [D.b false]) (T.ite (decide (p.I > (10 : Int))) (T.leaf [D.b false]) (T.ite (!within q.I (0 : Int) (100000 : Int)) (T.leaf [D.b false]) (T.ite (within r.I (0 : Int) (IntKind.wrap IntKind.i64 (a.I - (1 : Int)))) (T.leaf [D.b (within s.I (0 : Int) (IntKind.wrap IntKind.i64 (f.I - (1 : Int))))]) (T.leaf [D.b false]))))) (T.ite (decide (p.I < (1 : Int))) (T.leaf [D.b false]) (T.ite (decide (p.I > (10 : Int))) (T.leaf [D.b false]) (T.ite (!within q.I (0 : Int) (100000 : Int)) (T.leaf [D.b false]) (T.ite (!p.I == (10 : Int)) (T.ite (s.I != (0 : Int)) (T.leaf [D.b false]) (T.ite (within r.I (0 : Int) (IntKind.wrap IntKind.i64 (a.I - (1 : Int)))) (T.leaf [D.b (within s.I (0 : Int) (IntKind.wrap IntKind.i64 (f.I - (1 : Int))))]) (T.leaf [D.b false]))) (T.ite (within r.I (0 : Int) (IntKind.wrap IntKind.i64 (a.I - (1 : Int)))) (T.leaf [D.b (within s.I (0 : Int) (IntKind.wrap IntKind.i64 (f.I - (1 : Int))))]) (T.leaf [D.b false])))))))) (T.ite (p.I == (8 : Int)) (T.ite (decide (p.I < (1 : Int))) (T.leaf [D.b false]) (T.ite (decide (p.I > (10 : Int))) (T.leaf [D.b false]) (T.ite (!within q.I (0 : Int) (100000 : Int)) (T.leaf [D.b false]) (T.ite (!p.I == (8 : Int)) (T.ite (r.I != (0 : Int)) (T.leaf [D.b false]) (T.ite (within r.I (0 : Int) (IntKind.wrap IntKind.i64 (a.I - (1 : Int)))) (T.leaf [D.b (within s.I (0 : Int) (IntKind.wrap IntKind.i64 (f.I - (1 : Int))))]) (T.leaf [D.b false]))) (T.ite (within r.I (0 : Int) (IntKind.wrap IntKind.i64 (a.I - (1 : Int)))) (T.leaf [D.b (within s.I (0 : Int) (IntKind.wrap IntKind.i64 (f.I - (1 : Int))))]) (T.leaf [D.b false])))))) (T.ite (p.I == (9 : Int)) (T.ite (decide (p.I < (1 : Int))) (T.leaf [D.b false]) (T.ite (decide (p.I > (10 : Int))) (T.leaf [D.b false]) (T.ite (!within q.I (0 : Int) (100000 : Int)) (T.leaf [D.b false]) (T.ite (!p.I == (8 : Int)) (T.ite (r.I != (0 : Int)) (T.leaf [D.b false]) (T.ite (within r.I (0 : Int) (IntKind.wrap IntKind.i64 (a.I - (1 : Int)))) (T.leaf [D.b (within s.I (0 : Int) (IntKind.wrap IntKind.i64 (f.I - (1 : Int))))]) (T.leaf [D.b false]))) (T.ite (within r.I (0 : Int) (IntKind.wrap IntKind.i64 (a.I - (1 : Int)))) (T.leaf [D.b (within s.I (0 : Int) (IntKind.wrap IntKind.i64 (f.I - (1 : Int))))]) (T.leaf [D.b false])))))) (T.ite (decide (p.I < (1 : Int))) (T.leaf [D.b false]) (T.ite (decide (p.I > (10 : Int))) (T.leaf [D.b false]) (T.ite (!within q.I (0 : Int) (100000 : Int)) (T.leaf [D.b false]) (T.ite (!p.I == (8 : Int)) (T.ite (r.I != (0 : Int)) (T.leaf [D.b false]) (T.ite (!p.I == (10 : Int)) (T.ite (s.I != (0 : Int)) (T.leaf [D.b false]) (T.ite (within r.I (0 : Int) (IntKind.wrap IntKind.i64 (a.I - (1 : Int)))) (T.leaf [D.b (within s.I (0 : Int) (IntKind.wrap IntKind.i64 (f.I - (1 : Int))))]) (T.leaf [D.b false]))) (T.ite (within r.I (0 : Int) (IntKind.wrap IntKind.i64 (a.I - (1 : Int)))) (T.leaf [D.b (within s.I (0 : Int) (IntKind.wrap IntKind.i64 (f.I - (1 : Int))))]) (T.leaf [D.b false])))) (T.ite (!p.I == (10 : Int)) (T.ite (s.I != (0 : Int)) (T.leaf [D.b false]) (T.ite (within r.I (0 : Int) (IntKind.wrap IntKind.i64 (a.I - (1 : Int)))) (T.leaf [D.b (within s.I (0 : Int) (IntKind.wrap IntKind.i64 (f.I - (1 : Int))))]) (T.leaf [D.b false]))) (T.ite (within r.I (0 : Int) (IntKind.wrap IntKind.i64 (a.I - (1 : Int)))) (T.leaf [D.b (within s.I (0 : Int) (IntKind.wrap IntKind.i64 (f.I - (1 : Int))))]) (T.leaf [D.b false])))))))))))) := by kernel_rfl
theorem t85 (a b c : D) : (fnT C tab85 85 s85 [a, b, c]).run =
  T.run (T.leaf [D.b a.B]) := by kernel_rfl
theorem t86 (a b c d e f g h i j k l m n o p q r s : D) : (fnT C tab86 86 s86 [a, b, c, d, e, f, g, h, i, j, k, l, m, n, o, p, q, r, s]).run =
  T.run (T.ite (!c.B) (T.leaf [D.b true]) (T.leaf [D.b (decide (IntKind.wrap IntKind.i64 (d.I - b.I) > f.I))])) := by kernel_rfl
theorem t88 (a b c d e f g h i j k l m n o p q r s t : D) : (fnT C tab88 88 s88 [a, b, c, d, e, f, g, h, i, j, k, l, m, n, o, p, q, r, s, t]).run =
  T.run (T.ite (!d.B) (T.leaf [D.b (decide (c.I < IntKind.wrap IntKind.i64 (h.I - (1 : Int))))]) (T.leaf [D.b false])) := by kernel_rfl
theorem t89 (a b c d e f g h i j k l m n o p q r s t u : D) : (fnT C tab89 89 s89 [a, b, c, d, e, f, g, h, i, j, k, l, m, n, o, p, q, r, s, t, u]).run =
  T.run (T.ite (!d.B) (T.ite (!e.B) (T.ite (decide (c.I < IntKind.wrap IntKind.i64 (f.I - (1 : Int)))) (T.leaf [D.b (decide (IntKind.wrap IntKind.i64 (u.I - b.I) > j.I))]) (T.leaf [D.b false])) (T.leaf [D.b false])) (T.leaf [D.b false])) := by kernel_rfl
theorem t90 (a b c d e f g h i j k l m n o p q r s t u : D) : (fnT C tab90 90 s90 [a, b, c, d, e, f, g, h, i, j, k, l, m, n, o, p, q, r, s, t, u]).run =
  T.run (T.leaf [D.b (decide (b.I > IntKind.wrap IntKind.i64 (f.I - j.I)))]) := by kernel_rfl
theorem t92 (a b c d e : D) : (fnT C tab92 92 s92 [a, b, c, d, e]).run =
  T.run (T.leaf [D.b a.B]) := by kernel_rfl
theorem t1098 (a : D) : (fnT C tab1098 98 s1098 [a]).run =
  T.run (T.need (yes (a.L.length < big ∧ (a.L.length : Int) = (a.L.length : Int) ∧ (0 : Int) ≤ (0 : Int) ∧ (0 : Int) ≤ (a.L.length : Int))) (T.ite (decide (fstL redR a.L (Int.toNat (0 : Int)) (a.L.length - Int.toNat (0 : Int)) ≥ (0 : Int))) (T.leaf [D.i (fstL redR a.L (Int.toNat (0 : Int)) (a.L.length - Int.toNat (0 : Int)))]) (T.leaf [D.i (-1 : Int)]))) := by kernel_rfl
theorem t1098_2 (a b c : D) : (roundT C tab1098 98 (loopOf C.P 98 2) l1098_2 [a, b, c]).run =
  T.run (T.ite (decide (c.I < b.I)) (T.need (decide ((0 : Int) ≤ c.I ∧ c.I < (a.L.length : Int))) (T.ite (redR (mk3b (D.b (D.B (List.getD (List.getD a.L c.I.toNat []) 0 default))) (D.i (D.I (List.getD (List.getD a.L c.I.toNat []) (0 + 1) default))) (D.b (D.B (List.getD (List.getD a.L c.I.toNat []) (0 + 1 + 1) default))))) (T.leaf (Rd.out Ex.ret [D.i c.I])) (T.leaf (Rd.again [D.l a.L, D.i b.I, D.i (IntKind.wrap IntKind.i64 (c.I + (1 : Int)))])))) (T.leaf (Rd.out (Ex.exit 0) []))) := by kernel_rfl
theorem t2098 (a b c d e f g h i j k l m n o p q : D) : (fnT C tab2098 98 s2098 [a, b, c, d, e, f, g, h, i, j, k, l, m, n, o, p, q]).run =
  T.run (T.need (yes (a.L.length < big ∧ okLo a.L ∧ tOK b.I ∧ (a.L.length : Int) = (a.L.length : Int) ∧ (0 : Int) ≤ (0 : Int) ∧ (0 : Int) ≤ (a.L.length : Int))) (T.ite (decide (fstL (silR b.I d.I) a.L (Int.toNat (0 : Int)) (a.L.length - Int.toNat (0 : Int)) ≥ (0 : Int))) (T.leaf [D.i (fstL (silR b.I d.I) a.L (Int.toNat (0 : Int)) (a.L.length - Int.toNat (0 : Int)))]) (T.leaf [D.i (-1 : Int)]))) := by kernel_rfl
theorem t2098_2 (a b c d e f g h i j k l m n o p q r s : D) : (roundT C tab2098 98 (loopOf C.P 98 2) l2098_2 [a, b, c, d, e, f, g, h, i, j, k, l, m, n, o, p, q, r, s]).run =
  T.run (T.ite (decide (s.I < r.I)) (T.need (decide ((0 : Int) ≤ s.I ∧ s.I < (a.L.length : Int))) (T.need (yes (tOK (D.I (List.getD (List.getD a.L s.I.toNat []) (0 + 1) default)) ∧ tOK b.I)) (T.ite (silR b.I d.I (mk3b (D.b (D.B (List.getD (List.getD a.L s.I.toNat []) 0 default))) (D.i (D.I (List.getD (List.getD a.L s.I.toNat []) (0 + 1) default))) (D.b (D.B (List.getD (List.getD a.L s.I.toNat []) (0 + 1 + 1) default))))) (T.leaf (Rd.out Ex.ret [D.i s.I])) (T.leaf (Rd.again [D.l a.L, D.i b.I, D.i c.I, D.i d.I, D.i e.I, D.i f.I, D.i g.I, D.i h.I, D.b i.B, D.i j.I, D.b k.B, D.b l.B, D.i m.I, D.b n.B, D.l o.L, D.l p.L, D.l q.L, D.i r.I, D.i (IntKind.wrap IntKind.i64 (s.I + (1 : Int)))]))))) (T.leaf (Rd.out (Ex.exit 0) []))) := by kernel_rfl
theorem t1084 (a : D) : (fnT C tab1084 84 s1084 [a]).run =
  T.run (T.need (yes (a.L.length < big)) (T.leaf [D.b (decide (fstL redR a.L 0 a.L.length ≥ (0 : Int)))])) := by kernel_rfl
theorem t2084 (a b c d e f g h i j k l m n o p q : D) : (fnT C tab2084 84 s2084 [a, b, c, d, e, f, g, h, i, j, k, l, m, n, o, p, q]).run =
  T.run (T.need (yes (a.L.length < big ∧ okLo a.L ∧ tOK b.I)) (T.leaf [D.b (decide (fstL (silR b.I d.I) a.L 0 a.L.length ≥ (0 : Int)))])) := by kernel_rfl
theorem t1099 (a b c d e f g h i j k l m n o p q r s t : D) : (fnT C tab1099 99 s1099 [a, b, c, d, e, f, g, h, i, j, k, l, m, n, o, p, q, r, s, t]).run =
  T.run (T.ite a.B (T.need (yes (okPl f.I g.I h.I i.I j.I k.I)) (T.leaf [D.b (befR h.I (mk5c (D.b a.B) (D.i b.I) (D.i c.I) (D.b d.B) (D.b e.B)))])) (T.leaf [D.b false])) := by kernel_rfl
theorem t2099 (a b c d e f g h i j k l m n o p q r s t u : D) : (fnT C tab2099 99 s2099 [a, b, c, d, e, f, g, h, i, j, k, l, m, n, o, p, q, r, s, t, u]).run =
  T.run (T.ite a.B (T.need (yes (okPl f.I g.I h.I i.I j.I k.I ∧ tOK b.I ∧ tOK u.I)) (T.leaf [D.b (misR f.I j.I u.I (mk5c (D.b a.B) (D.i b.I) (D.i c.I) (D.b d.B) (D.b e.B)))])) (T.leaf [D.b false])) := by kernel_rfl
theorem t3099 (a b c d e f g h i j k l m n o p q r s t u : D) : (fnT C tab3099 99 s3099 [a, b, c, d, e, f, g, h, i, j, k, l, m, n, o, p, q, r, s, t, u]).run =
  T.run (T.ite a.B (T.need (yes (okPl g.I h.I i.I j.I k.I l.I ∧ tOK f.I)) (T.leaf [D.b (intR j.I f.I (mk5c (D.b a.B) (D.i b.I) (D.i c.I) (D.b d.B) (D.b e.B)))])) (T.leaf [D.b false])) := by kernel_rfl
theorem t1100 (a : D) : (fnT C tab1100 100 s1100 [a]).run =
  T.run (T.need (yes (a.L.length < big ∧ (a.L.length : Int) = (a.L.length : Int) ∧ (0 : Int) ≤ (0 : Int) ∧ (0 : Int) ≤ (a.L.length : Int))) (T.ite (decide (fstL stR a.L (Int.toNat (0 : Int)) (a.L.length - Int.toNat (0 : Int)) ≥ (0 : Int))) (T.leaf [D.i (fstL stR a.L (Int.toNat (0 : Int)) (a.L.length - Int.toNat (0 : Int)))]) (T.leaf [D.i (-1 : Int)]))) := by kernel_rfl
theorem t1100_2 (a b c : D) : (roundT C tab1100 100 (loopOf C.P 100 2) l1100_2 [a, b, c]).run =
  T.run (T.ite (decide (c.I < b.I)) (T.need (decide ((0 : Int) ≤ c.I ∧ c.I < (a.L.length : Int))) (T.ite (stR (mk5c (D.b (D.B (List.getD (List.getD a.L c.I.toNat []) 0 default))) (D.i (D.I (List.getD (List.getD a.L c.I.toNat []) (0 + 1) default))) (D.i (D.I (List.getD (List.getD a.L c.I.toNat []) (0 + 1 + 1) default))) (D.b (D.B (List.getD (List.getD a.L c.I.toNat []) (0 + 1 + 1 + 1) default))) (D.b (D.B (List.getD (List.getD a.L c.I.toNat []) (0 + 1 + 1 + 1 + 1) default))))) (T.leaf (Rd.out Ex.ret [D.i c.I])) (T.leaf (Rd.again [D.l a.L, D.i b.I, D.i (IntKind.wrap IntKind.i64 (c.I + (1 : Int)))])))) (T.leaf (Rd.out (Ex.exit 0) []))) := by kernel_rfl
theorem t2100 (a b c d e f g h i j k l m n o p : D) : (fnT C tab2100 100 s2100 [a, b, c, d, e, f, g, h, i, j, k, l, m, n, o, p]).run =
  T.run (T.need (yes (a.L.length < big ∧ okPl b.I c.I d.I e.I f.I g.I ∧ (a.L.length : Int) = (a.L.length : Int) ∧ (0 : Int) ≤ (0 : Int) ∧ (0 : Int) ≤ (a.L.length : Int))) (T.ite (decide (fstL (both (befR d.I)) a.L (Int.toNat (0 : Int)) (a.L.length - Int.toNat (0 : Int)) ≥ (0 : Int))) (T.leaf [D.i (fstL (both (befR d.I)) a.L (Int.toNat (0 : Int)) (a.L.length - Int.toNat (0 : Int)))]) (T.leaf [D.i (-1 : Int)]))) := by kernel_rfl
theorem t2100_2 (a b c d e f g h i j k l m n o p q r : D) : (roundT C tab2100 100 (loopOf C.P 100 2) l2100_2 [a, b, c, d, e, f, g, h, i, j, k, l, m, n, o, p, q, r]).run =
  T.run (T.ite (decide (r.I < q.I)) (T.need (decide ((0 : Int) ≤ r.I ∧ r.I < (a.L.length : Int))) (T.need (yes (okPl b.I c.I d.I e.I f.I g.I)) (T.ite (both (befR d.I) (mk5c (D.b (D.B (List.getD (List.getD a.L r.I.toNat []) 0 default))) (D.i (D.I (List.getD (List.getD a.L r.I.toNat []) (0 + 1) default))) (D.i (D.I (List.getD (List.getD a.L r.I.toNat []) (0 + 1 + 1) default))) (D.b (D.B (List.getD (List.getD a.L r.I.toNat []) (0 + 1 + 1 + 1) default))) (D.b (D.B (List.getD (List.getD a.L r.I.toNat []) (0 + 1 + 1 + 1 + 1) default))))) (T.leaf (Rd.out Ex.ret [D.i r.I])) (T.leaf (Rd.again [D.l a.L, D.i b.I, D.i c.I, D.i d.I, D.i e.I, D.i f.I, D.i g.I, D.b h.B, D.i i.I, D.b j.B, D.b k.B, D.i l.I, D.b m.B, D.l n.L, D.l o.L, D.l p.L, D.i q.I, D.i (IntKind.wrap IntKind.i64 (r.I + (1 : Int)))]))))) (T.leaf (Rd.out (Ex.exit 0) []))) := by kernel_rfl
theorem t3100 (a b c d e f g h i j k l m n o p q : D) : (fnT C tab3100 100 s3100 [a, b, c, d, e, f, g, h, i, j, k, l, m, n, o, p, q]).run =
  T.run (T.need (yes (a.L.length < big ∧ okPl b.I c.I d.I e.I f.I g.I ∧ okCa a.L ∧ tOK q.I ∧ (a.L.length : Int) = (a.L.length : Int) ∧ (0 : Int) ≤ (0 : Int) ∧ (0 : Int) ≤ (a.L.length : Int))) (T.ite (decide (fstL (both (misR b.I f.I q.I)) a.L (Int.toNat (0 : Int)) (a.L.length - Int.toNat (0 : Int)) ≥ (0 : Int))) (T.leaf [D.i (fstL (both (misR b.I f.I q.I)) a.L (Int.toNat (0 : Int)) (a.L.length - Int.toNat (0 : Int)))]) (T.leaf [D.i (-1 : Int)]))) := by kernel_rfl
theorem t3100_2 (a b c d e f g h i j k l m n o p q r s : D) : (roundT C tab3100 100 (loopOf C.P 100 2) l3100_2 [a, b, c, d, e, f, g, h, i, j, k, l, m, n, o, p, q, r, s]).run =
  T.run (T.ite (decide (s.I < r.I)) (T.need (decide ((0 : Int) ≤ s.I ∧ s.I < (a.L.length : Int))) (T.need (yes (okPl b.I c.I d.I e.I f.I g.I ∧ tOK (D.I (List.getD (List.getD a.L s.I.toNat []) (0 + 1) default)) ∧ tOK q.I)) (T.ite (both (misR b.I f.I q.I) (mk5c (D.b (D.B (List.getD (List.getD a.L s.I.toNat []) 0 default))) (D.i (D.I (List.getD (List.getD a.L s.I.toNat []) (0 + 1) default))) (D.i (D.I (List.getD (List.getD a.L s.I.toNat []) (0 + 1 + 1) default))) (D.b (D.B (List.getD (List.getD a.L s.I.toNat []) (0 + 1 + 1 + 1) default))) (D.b (D.B (List.getD (List.getD a.L s.I.toNat []) (0 + 1 + 1 + 1 + 1) default))))) (T.leaf (Rd.out Ex.ret [D.i s.I])) (T.leaf (Rd.again [D.l a.L, D.i b.I, D.i c.I, D.i d.I, D.i e.I, D.i f.I, D.i g.I, D.b h.B, D.i i.I, D.b j.B, D.b k.B, D.i l.I, D.b m.B, D.l n.L, D.l o.L, D.l p.L, D.i q.I, D.i r.I, D.i (IntKind.wrap IntKind.i64 (s.I + (1 : Int)))]))))) (T.leaf (Rd.out (Ex.exit 0) []))) := by kernel_rfl
theorem t4100 (a b c d e f g h i j k l m n o p q : D) : (fnT C tab4100 100 s4100 [a, b, c, d, e, f, g, h, i, j, k, l, m, n, o, p, q]).run =
  T.run (T.need (yes (a.L.length < big ∧ okPl c.I d.I e.I f.I g.I h.I ∧ okCa a.L ∧ tOK b.I ∧ (a.L.length : Int) = (a.L.length : Int) ∧ (0 : Int) ≤ (0 : Int) ∧ (0 : Int) ≤ (a.L.length : Int))) (T.ite (decide (fstL (both (intR f.I b.I)) a.L (Int.toNat (0 : Int)) (a.L.length - Int.toNat (0 : Int)) ≥ (0 : Int))) (T.leaf [D.i (fstL (both (intR f.I b.I)) a.L (Int.toNat (0 : Int)) (a.L.length - Int.toNat (0 : Int)))]) (T.leaf [D.i (-1 : Int)]))) := by kernel_rfl
theorem t4100_2 (a b c d e f g h i j k l m n o p q r s : D) : (roundT C tab4100 100 (loopOf C.P 100 2) l4100_2 [a, b, c, d, e, f, g, h, i, j, k, l, m, n, o, p, q, r, s]).run =
  T.run (T.ite (decide (s.I < r.I)) (T.need (decide ((0 : Int) ≤ s.I ∧ s.I < (a.L.length : Int))) (T.need (yes (okPl c.I d.I e.I f.I g.I h.I ∧ tOK b.I)) (T.ite (both (intR f.I b.I) (mk5c (D.b (D.B (List.getD (List.getD a.L s.I.toNat []) 0 default))) (D.i (D.I (List.getD (List.getD a.L s.I.toNat []) (0 + 1) default))) (D.i (D.I (List.getD (List.getD a.L s.I.toNat []) (0 + 1 + 1) default))) (D.b (D.B (List.getD (List.getD a.L s.I.toNat []) (0 + 1 + 1 + 1) default))) (D.b (D.B (List.getD (List.getD a.L s.I.toNat []) (0 + 1 + 1 + 1 + 1) default))))) (T.leaf (Rd.out Ex.ret [D.i s.I])) (T.leaf (Rd.again [D.l a.L, D.i b.I, D.i c.I, D.i d.I, D.i e.I, D.i f.I, D.i g.I, D.i h.I, D.b i.B, D.i j.I, D.b k.B, D.b l.B, D.i m.I, D.b n.B, D.l o.L, D.l p.L, D.l q.L, D.i r.I, D.i (IntKind.wrap IntKind.i64 (s.I + (1 : Int)))]))))) (T.leaf (Rd.out (Ex.exit 0) []))) := by kernel_rfl
theorem t1091 (a : D) : (fnT C tab1091 91 s1091 [a]).run =
  T.run (T.need (yes (a.L.length < big)) (T.leaf [D.b (decide (fstL stR a.L 0 a.L.length ≥ (0 : Int)))])) := by kernel_rfl
theorem t2091 (a b c d e f g h i j k l m n o p : D) : (fnT C tab2091 91 s2091 [a, b, c, d, e, f, g, h, i, j, k, l, m, n, o, p]).run =
  T.run (T.need (yes (a.L.length < big ∧ okPl b.I c.I d.I e.I f.I g.I)) (T.leaf [D.b (decide (fstL (both (befR d.I)) a.L 0 a.L.length ≥ (0 : Int)))])) := by kernel_rfl
theorem t3091 (a b c d e f g h i j k l m n o p q : D) : (fnT C tab3091 91 s3091 [a, b, c, d, e, f, g, h, i, j, k, l, m, n, o, p, q]).run =
  T.run (T.need (yes (a.L.length < big ∧ okPl b.I c.I d.I e.I f.I g.I ∧ okCa a.L ∧ tOK q.I)) (T.leaf [D.b (decide (fstL (both (misR b.I f.I q.I)) a.L 0 a.L.length ≥ (0 : Int)))])) := by kernel_rfl
theorem t4091 (a b c d e f g h i j k l m n o p q : D) : (fnT C tab4091 91 s4091 [a, b, c, d, e, f, g, h, i, j, k, l, m, n, o, p, q]).run =
  T.run (T.need (yes (a.L.length < big ∧ okPl c.I d.I e.I f.I g.I h.I ∧ okCa a.L ∧ tOK b.I)) (T.leaf [D.b (decide (fstL (both (intR f.I b.I)) a.L 0 a.L.length ≥ (0 : Int)))])) := by kernel_rfl
theorem t1087 (a b c d e f g h i j k l m n o p q r s t u v w x y z z26 z27 z28 z29 : D) : (fnT C tab1087 87 s1087 [a, b, c, d, e, f, g, h, i, j, k, l, m, n, o, p, q, r, s, t, u, v, w, x, y, z, z26, z27, z28, z29]).run =
  T.run (T.need (yes (o.L.length < big ∧ okPl p.I q.I r.I s.I t.I u.I)) (T.leaf [D.b (anyL (both (befR r.I)) o.L)])) := by kernel_rfl
theorem t2087 (a b c d e f g h i j k l m n o p q r s t u v w x y z z26 z27 z28 z29 z30 : D) : (fnT C tab2087 87 s2087 [a, b, c, d, e, f, g, h, i, j, k, l, m, n, o, p, q, r, s, t, u, v, w, x, y, z, z26, z27, z28, z29, z30]).run =
  T.run (T.need (yes (o.L.length < big ∧ okPl p.I q.I r.I s.I t.I u.I ∧ okCa o.L ∧ tOK z30.I)) (T.leaf [D.b (anyL (both (misR p.I t.I z30.I)) o.L)])) := by kernel_rfl
theorem t3087 (a b c d e f g h i j k l m n o p q r s t u v w x y z z26 z27 z28 z29 z30 : D) : (fnT C tab3087 87 s3087 [a, b, c, d, e, f, g, h, i, j, k, l, m, n, o, p, q, r, s, t, u, v, w, x, y, z, z26, z27, z28, z29, z30]).run =
  T.run (T.need (yes (o.L.length < big ∧ okPl q.I r.I s.I t.I u.I v.I ∧ okCa o.L ∧ tOK p.I)) (T.leaf [D.b (anyL (both (intR t.I p.I)) o.L)])) := by kernel_rfl
theorem t65 (a b c d e f g h i j k l m n o p q : D) : (fnT C tab65 65 s65 [a, b, c, d, e, f, g, h, i, j, k, l, m, n, o, p, q]).run =
  T.run (T.leaf [D.b !g.B]) := by kernel_rfl
theorem t66 (a b c d e f g h i j k l m n o p q : D) : (fnT C tab66 66 s66 [a, b, c, d, e, f, g, h, i, j, k, l, m, n, o, p, q]).run =
  T.run (T.need (yes (m.L.length < big)) (T.leaf [D.b (anyL redR m.L)])) := by kernel_rfl
theorem t67 (a b c d e f g h i j k l m n o p q : D) : (fnT C tab67 67 s67 [a, b, c, d, e, f, g, h, i, j, k, l, m, n, o, p, q]).run =
  T.run (T.need (yes (n.L.length < big ∧ okLo n.L ∧ tOK q.I)) (T.leaf [D.b (anyL (silR q.I b.I) n.L)])) := by kernel_rfl
theorem t68 (a b c d e f g h i j k l m n o p q : D) : (fnT C tab68 68 s68 [a, b, c, d, e, f, g, h, i, j, k, l, m, n, o, p, q]).run =
  T.run (T.leaf [D.b !j.B]) := by kernel_rfl
theorem t69 (a b c d e f g h i j k l m n o p q : D) : (fnT C tab69 69 s69 [a, b, c, d, e, f, g, h, i, j, k, l, m, n, o, p, q]).run =
  T.run (T.need (yes (okPl a.I b.I c.I d.I e.I f.I ∧ o.L.length < big)) (T.leaf [D.b (anyL (both (befR c.I)) o.L)])) := by kernel_rfl
theorem t70 (a b c d e f g h i j k l m n o p q : D) : (fnT C tab70 70 s70 [a, b, c, d, e, f, g, h, i, j, k, l, m, n, o, p, q]).run =
  T.run (T.need (yes (okPl a.I b.I c.I d.I e.I f.I ∧ o.L.length < big ∧ okCa o.L ∧ tOK q.I)) (T.leaf [D.b (anyL (both (misR a.I e.I q.I)) o.L)])) := by kernel_rfl
theorem t71 (a b c d e f g h i j k l m n o p q : D) : (fnT C tab71 71 s71 [a, b, c, d, e, f, g, h, i, j, k, l, m, n, o, p, q]).run =
  T.run (T.need (yes (okPl a.I b.I c.I d.I e.I f.I ∧ o.L.length < big ∧ okCa o.L ∧ tOK q.I)) (T.leaf [D.b (anyL (both (intR d.I q.I)) o.L)])) := by kernel_rfl
theorem t72 (a b c d e f g h i j k l m n o p q : D) : (fnT C tab72 72 s72 [a, b, c, d, e, f, g, h, i, j, k, l, m, n, o, p, q]).run =
  T.run (T.need (decide ((0 : Int) ≤ p.I ∧ p.I ≤ (o.L.length : Int))) (T.need (yes (List.length (List.take (o.L.length - p.I.toNat) (List.drop p.I.toNat o.L)) < big)) (T.leaf [D.b (anyL stR (List.take (o.L.length - p.I.toNat) (List.drop p.I.toNat o.L)))]))) := by kernel_rfl
end Go.Proofs.Ytgmefblkmidglaa
namespace Go.Proofs.Ytgmefblkmidglaa
open Go.Lite
set_option maxRecDepth 100000
set_option linter.unusedVariables false
theorem fst_all (R : List D → Bool) (l : List (List D)) : decide (fstL R l 0 l.length ≥ 0) = anyL R l := by
  unfold fstL anyL
  rw [firstFrom_all]
theorem fst_end {R : List D → Bool} {l : List (List D)} {i k : Nat} (h : ¬ fstL R l i k ≥ 0) : fstL R l i k = -1 := firstFrom_neg (by unfold fstL at h; omega)
theorem red_row (c : List D) : redR (mk3b (.b (bx c 0)) (.i (ix c 1)) (.b (bx c 2))) = redR c := rfl
theorem sil_row (t p1 : Int) (c : List D) : silR t p1 (mk3b (.b (bx c 0)) (.i (ix c 1)) (.b (bx c 2))) = silR t p1 c := rfl
theorem st_row (c : List D) : stR (mk5c (.b (bx c 0)) (.i (ix c 1)) (.i (ix c 2)) (.b (bx c 3)) (.b (bx c 4))) = stR c := rfl
theorem bef_row (p2 : Int) (c : List D) : both (befR p2) (mk5c (.b (bx c 0)) (.i (ix c 1)) (.i (ix c 2)) (.b (bx c 3)) (.b (bx c 4))) = both (befR p2) c := rfl
theorem mis_row (p0 p4 t : Int) (c : List D) : both (misR p0 p4 t) (mk5c (.b (bx c 0)) (.i (ix c 1)) (.i (ix c 2)) (.b (bx c 3)) (.b (bx c 4))) = both (misR p0 p4 t) c := rfl
theorem int_row (p3 t : Int) (c : List D) : both (intR p3 t) (mk5c (.b (bx c 0)) (.i (ix c 1)) (.i (ix c 2)) (.b (bx c 3)) (.b (bx c 4))) = both (intR p3 t) c := rfl
theorem ok45 (n : Nat) : FnOK C (n + 1) 45 (mkF s45 G45) := by
  refine fn_ofS hC (sp := sp45) (lp := lp45) (sw := sw45) trivial trivial (by kernel_rfl) [] (by kernel_rfl) rfl (fun k hk => by cases hk) fun ds r h => ?_
  unfold G45 at h
  split at h
  · rename_i n' b c
    refine (t45 n' b c).trans ?_
    rw [← h]
    refine go_if (fun h1 => ?_) fun h1 => ?_
    · rw [within_dec]
      simp only [run_leaf, show (b.I ≤ n'.I ∧ n'.I ≤ c.I) ↔ n'.I ≤ c.I from ⟨fun h => h.2, fun h => ⟨h1, h⟩⟩]
    · rw [within_dec, decide_eq_false (fun h => h1 h.1)]
  · cases h
theorem ok47 (n : Nat) : FnOK C (n + 1) 47 (mkF s47 G47) := by
  refine fn_ofS hC (sp := sp47) (lp := lp47) (sw := sw47) trivial trivial (by kernel_rfl) [] (by kernel_rfl) rfl (fun k hk => by cases hk) fun ds r h => ?_
  unfold G47 at h
  split at h
  · rename_i n' b c
    refine (t47 n' b c).trans ?_
    rw [← h]
    refine go_if (fun h1 => ?_) fun h1 => ?_
    · rw [within_dec]
      simp only [run_leaf, show (b.I ≤ n'.I ∧ n'.I ≤ c.I) ↔ n'.I ≤ c.I from ⟨fun h => h.2, fun h => ⟨h1, h⟩⟩]
    · rw [within_dec, decide_eq_false (fun h => h1 h.1)]
  · cases h
theorem ok61 (n : Nat) : FnOK C (n + 1) 61 (mkF s61 G61) := by
  refine fn_ofS hC (sp := sp61) (lp := lp61) (sw := sw61) trivial trivial (by kernel_rfl) [] (by kernel_rfl) rfl (fun k hk => by cases hk) fun ds r h => ?_
  unfold G61 at h
  split at h
  · rename_i p0 p1 p2 p3 p4 p5 ov os oh cv cs ch rd po ca
    refine (t61 p0 p1 p2 p3 p4 p5 ov os oh cv cs ch rd po ca).trans ?_
    rw [← h]
    simp only [run_leaf, gt_iff_lt, Int.natCast_pos]
  · cases h
theorem ok62 (n : Nat) : FnOK C (n + 2) 62 (mkF s62 G62) := by
  refine fn_ofS hC (sp := sp62) (lp := lp62) (sw := sw62) ⟨ok45 n, trivial⟩ trivial (by kernel_rfl) [] (by kernel_rfl) rfl (fun k hk => by cases hk) fun ds r h => ?_
  unfold G62 at h
  split at h
  · rename_i p0 p1 p2 p3 p4 p5 ov os oh cv cs ch rd po ca k s p c
    obtain ⟨hp, h⟩ := need_some h
    rw [yes_iff] at hp
    refine (t62 p0 p1 p2 p3 p4 p5 ov os oh cv cs ch rd po ca k s p c).trans ?_
    rw [← h]
    unfold okPl at hp
    have e0 : IntKind.i64.wrap (p0.I - 1) = p0.I - 1 := wrap_id (by omega) (by omega)
    have e5 : IntKind.i64.wrap (p5.I - 1) = p5.I - 1 := wrap_id (by omega) (by omega)
    simp only [e0, e5]
    unfold evB
    repeat' (refine go_ite (fun h => ?_) (fun h => ?_))
    all_goals try simp only [within_dec, Bool.not_eq_true', Bool.not_eq_false', beq_iff_eq, beq_eq_false_iff_ne, bne_iff_ne, bne_eq_false_iff_eq, decide_eq_true_eq, decide_eq_false_iff_not, ne_eq] at *
    all_goals first
      | exact congrArg (fun b => some [D.b b]) (decide_eq_false (by omega)).symm
      | exact congrArg (fun b => some [D.b b]) (decide_eq_decide.2 (by omega))
  · cases h
theorem ok85 (n : Nat) : FnOK C (n + 1) 85 (mkF s85 G85) := by
  refine fn_ofS hC (sp := sp85) (lp := lp85) (sw := sw85) trivial trivial (by kernel_rfl) [] (by kernel_rfl) rfl (fun k hk => by cases hk) fun ds r h => ?_
  unfold G85 at h
  split at h
  · rename_i v s q
    refine (t85 v s q).trans ?_
    rw [← h]
    rfl
  · cases h
theorem ok86 (n : Nat) : FnOK C (n + 1) 86 (mkF s86 G86) := by
  refine fn_ofS hC (sp := sp86) (lp := lp86) (sw := sw86) trivial trivial (by kernel_rfl) [] (by kernel_rfl) rfl (fun k hk => by cases hk) fun ds r h => ?_
  unfold G86 at h
  split at h
  · rename_i v s q t p0 p1 p2 p3 p4 p5 ov os oh cv cs ch rd po ca
    obtain ⟨hp, h⟩ := need_some h
    rw [yes_iff] at hp
    refine (t86 v s q t p0 p1 p2 p3 p4 p5 ov os oh cv cs ch rd po ca).trans ?_
    rw [← h]
    unfold tOK at hp
    rw [wrap_id (by omega) (by omega)]
    have e : silR t.I p1.I (mk3b v s q) = (!q.B || decide (t.I - s.I > p1.I)) := rfl
    rw [e]
    refine go_not (fun c => by rw [c]; rfl) fun c => by rw [c]; rfl
  · cases h
theorem ok88 (n : Nat) : FnOK C (n + 1) 88 (mkF s88 G88) := by
  refine fn_ofS hC (sp := sp88) (lp := lp88) (sw := sw88) trivial trivial (by kernel_rfl) [] (by kernel_rfl) rfl (fun k hk => by cases hk) fun ds r h => ?_
  unfold G88 at h
  split at h
  · rename_i a b c d e p0 p1 p2 p3 p4 p5 ov os oh cv cs ch rd po ca
    obtain ⟨hp, h⟩ := need_some h
    rw [yes_iff] at hp
    refine (t88 a b c d e p0 p1 p2 p3 p4 p5 ov os oh cv cs ch rd po ca).trans ?_
    rw [← h]
    unfold okPl at hp
    rw [wrap_id (by omega) (by omega)]
    have e1 : befR p2.I (mk5c a b c d e) = (!d.B && decide (c.I < p2.I - 1)) := rfl
    rw [e1]
    refine go_not (fun k => by rw [k]; rfl) fun k => by rw [k]; rfl
  · cases h
theorem ok89 (n : Nat) : FnOK C (n + 1) 89 (mkF s89 G89) := by
  refine fn_ofS hC (sp := sp89) (lp := lp89) (sw := sw89) trivial trivial (by kernel_rfl) [] (by kernel_rfl) rfl (fun k hk => by cases hk) fun ds r h => ?_
  unfold G89 at h
  split at h
  · rename_i a b c d e p0 p1 p2 p3 p4 p5 ov os oh cv cs ch rd po ca t
    obtain ⟨hp, h⟩ := need_some h
    rw [yes_iff] at hp
    refine (t89 a b c d e p0 p1 p2 p3 p4 p5 ov os oh cv cs ch rd po ca t).trans ?_
    rw [← h]
    unfold okPl tOK at hp
    rw [wrap_id (x := p0.I - 1) (by omega) (by omega), wrap_id (by omega) (by omega)]
    have e1 : misR p0.I p4.I t.I (mk5c a b c d e) = ((!d.B && !e.B) && (decide (c.I < p0.I - 1) && decide (t.I - b.I > p4.I))) := rfl
    rw [e1]
    refine go_not (fun k => go_not (fun k2 => go_if (fun k3 => by rw [k, k2, decide_eq_true k3]; rfl) fun k3 => by rw [decide_eq_false k3, Bool.false_and, Bool.and_false]) fun k2 => by rw [k2]; simp) fun k => by rw [k]; rfl
  · cases h
theorem ok90 (n : Nat) : FnOK C (n + 1) 90 (mkF s90 G90) := by
  refine fn_ofS hC (sp := sp90) (lp := lp90) (sw := sw90) trivial trivial (by kernel_rfl) [] (by kernel_rfl) rfl (fun k hk => by cases hk) fun ds r h => ?_
  unfold G90 at h
  split at h
  · rename_i a b c d e t p0 p1 p2 p3 p4 p5 ov os oh cv cs ch rd po ca
    obtain ⟨hp, h⟩ := need_some h
    rw [yes_iff] at hp
    refine (t90 a b c d e t p0 p1 p2 p3 p4 p5 ov os oh cv cs ch rd po ca).trans ?_
    rw [← h]
    unfold okPl tOK at hp
    rw [wrap_id (by omega) (by omega)]
    rfl
  · cases h
theorem ok92 (n : Nat) : FnOK C (n + 1) 92 (mkF s92 G92) := by
  refine fn_ofS hC (sp := sp92) (lp := lp92) (sw := sw92) trivial trivial (by kernel_rfl) [] (by kernel_rfl) rfl (fun k hk => by cases hk) fun ds r h => ?_
  unfold G92 at h
  split at h
  · rename_i a b c d e
    refine (t92 a b c d e).trans ?_
    rw [← h]
    rfl
  · cases h
theorem ok1099 (n : Nat) : FnOK C (n + 2) 99 (mkF s1099 G1099) := by
  refine fn_ofS hC (sp := sp1099) (lp := lp1099) (sw := sw1099) ⟨ok88 n, trivial⟩ trivial (by kernel_rfl) [] (by kernel_rfl) rfl (fun k hk => by cases hk) fun ds r h => ?_
  unfold G1099 at h
  split at h
  · rename_i a b c d e p0 p1 p2 p3 p4 p5 ov os oh cv cs ch rd po ca
    obtain ⟨hp, h⟩ := need_some h
    rw [yes_iff] at hp
    refine (t1099 a b c d e p0 p1 p2 p3 p4 p5 ov os oh cv cs ch rd po ca).trans ?_
    rw [← h]
    have e1 : both (befR p2.I) (mk5c a b c d e) = (a.B && (befR p2.I) (mk5c a b c d e)) := rfl
    rw [e1]
    exact go_ite (fun k => go_yes hp (by rw [k]; rfl)) fun k => by rw [k]; rfl
  · cases h
theorem ok2099 (n : Nat) : FnOK C (n + 2) 99 (mkF s2099 G2099) := by
  refine fn_ofS hC (sp := sp2099) (lp := lp2099) (sw := sw2099) ⟨ok89 n, trivial⟩ trivial (by kernel_rfl) [] (by kernel_rfl) rfl (fun k hk => by cases hk) fun ds r h => ?_
  unfold G2099 at h
  split at h
  · rename_i a b c d e p0 p1 p2 p3 p4 p5 ov os oh cv cs ch rd po ca t
    obtain ⟨hp, h⟩ := need_some h
    rw [yes_iff] at hp
    refine (t2099 a b c d e p0 p1 p2 p3 p4 p5 ov os oh cv cs ch rd po ca t).trans ?_
    rw [← h]
    have e1 : both (misR p0.I p4.I t.I) (mk5c a b c d e) = (a.B && (misR p0.I p4.I t.I) (mk5c a b c d e)) := rfl
    rw [e1]
    exact go_ite (fun k => go_yes hp (by rw [k]; rfl)) fun k => by rw [k]; rfl
  · cases h
theorem ok3099 (n : Nat) : FnOK C (n + 2) 99 (mkF s3099 G3099) := by
  refine fn_ofS hC (sp := sp3099) (lp := lp3099) (sw := sw3099) ⟨ok90 n, trivial⟩ trivial (by kernel_rfl) [] (by kernel_rfl) rfl (fun k hk => by cases hk) fun ds r h => ?_
  unfold G3099 at h
  split at h
  · rename_i a b c d e t p0 p1 p2 p3 p4 p5 ov os oh cv cs ch rd po ca
    obtain ⟨hp, h⟩ := need_some h
    rw [yes_iff] at hp
    refine (t3099 a b c d e t p0 p1 p2 p3 p4 p5 ov os oh cv cs ch rd po ca).trans ?_
    rw [← h]
    have e1 : both (intR p3.I t.I) (mk5c a b c d e) = (a.B && (intR p3.I t.I) (mk5c a b c d e)) := rfl
    rw [e1]
    exact go_ite (fun k => go_yes hp (by rw [k]; rfl)) fun k => by rw [k]; rfl
  · cases h
theorem ok1098_2 (n : Nat) : LoopSim C (n + 1) 98 (loopOf C.P 98 2) (mkL l1098_2 G1098_2) := by
  refine loop_ofK hC (sp := sp1098) (lp := lp1098) (sw := sw1098) ⟨ok85 n, trivial⟩ trivial 0 [] (by kernel_rfl) rfl (fun k hk => by cases hk) (by kernel_rfl) (fun ds => ((ds.getD 1 default).I - (ds.getD 2 default).I).toNat) fun ds rr h => ?_
  unfold G1098_2 at h
  split at h
  · rename_i l  m i
    obtain ⟨hp, h⟩ := need_some h
    rw [yes_iff] at hp
    obtain ⟨hl, hm, hi0, hi1⟩ := hp
    have hb := big_eq
    refine ⟨by rw [fuelC]; simp; omega, ?_⟩
    rw [show (roundTK C (mkTab sp1098 lp1098 sw1098) 98 (loopOf C.P 98 2) 0 l1098_2 [l, m, i]).run = _ from t1098_2 l  m i]
    obtain ⟨k, hk⟩ : ∃ k : Nat, i.I = k := ⟨i.I.toNat, by omega⟩
    simp only [hk, hm, Int.toNat_natCast, Nat.reduceAdd, ix_def, bx_def, red_row] at h hi0 hi1 ⊢
    refine rd_if (fun hlt => ?_) fun hge => rd_out (first_end h (by omega))
    obtain ⟨s1, s2⟩ := first_step h (by omega : k < l.L.length)
    refine rd_dec (by omega) (rd_ite (fun c => rd_out (s1 c)) fun c => ?_)
    rw [wrap_succ (by omega)]
    exact rd_again ((need_yes ⟨hl, rfl, by simp only [I_i]; omega, by simp only [I_i, L_l]; omega⟩).trans (s2 c)) (show ((l.L.length : Int) - ((k + 1 : Nat) : Int)).toNat < (m.I - i.I).toNat by omega)
  · cases h
theorem ok1098 (n : Nat) : FnOK C (n + 2) 98 (mkF s1098 G1098) := by
  refine fn_ofS hC (sp := sp1098) (lp := lp1098) (sw := sw1098) ⟨ok85 n, trivial⟩ trivial (by kernel_rfl) [2] (by kernel_rfl) (by kernel_rfl) (fun k hk L hL => by simp at hk; subst hk; cases hL; exact ok1098_2 n) fun ds r h => ?_
  unfold G1098 at h
  split at h
  · rename_i l
    obtain ⟨hp, h⟩ := need_some h
    rw [yes_iff] at hp
    refine (t1098 l).trans ?_
    rw [← h]
    simp only [Int.toNat_zero, Nat.sub_zero]
    refine go_yes ⟨hp, by first | trivial | rfl, by omega, by omega⟩ (go_if (fun c => rfl) fun c => ?_)
    rw [fst_end c]
  · cases h
theorem ok1084 (n : Nat) : FnOK C (n + 3) 84 (mkF s1084 G1084) := by
  refine fn_ofS hC (sp := sp1084) (lp := lp1084) (sw := sw1084) ⟨ok1098 n, ok85 (n + 1), trivial⟩ trivial (by kernel_rfl) [] (by kernel_rfl) rfl (fun k hk => by cases hk) fun ds r h => ?_
  unfold G1084 at h
  split at h
  · rename_i l
    obtain ⟨hp, h⟩ := need_some h
    rw [yes_iff] at hp
    refine (t1084 l).trans ?_
    rw [← h]
    refine go_yes hp ?_
    rw [fst_all]
  · cases h
theorem ok2098_2 (n : Nat) : LoopSim C (n + 1) 98 (loopOf C.P 98 2) (mkL l2098_2 G2098_2) := by
  refine loop_ofK hC (sp := sp2098) (lp := lp2098) (sw := sw2098) ⟨ok86 n, trivial⟩ trivial 0 [] (by kernel_rfl) rfl (fun k hk => by cases hk) (by kernel_rfl) (fun ds => ((ds.getD 17 default).I - (ds.getD 18 default).I).toNat) fun ds rr h => ?_
  unfold G2098_2 at h
  split at h
  · rename_i l t p0 p1 p2 p3 p4 p5 ov os oh cv cs ch rd po ca m i
    obtain ⟨hp, h⟩ := need_some h
    rw [yes_iff] at hp
    obtain ⟨hl, hlo, ht, hm, hi0, hi1⟩ := hp
    have hb := big_eq
    refine ⟨by rw [fuelC]; simp; omega, ?_⟩
    rw [show (roundTK C (mkTab sp2098 lp2098 sw2098) 98 (loopOf C.P 98 2) 0 l2098_2 [l, t, p0, p1, p2, p3, p4, p5, ov, os, oh, cv, cs, ch, rd, po, ca, m, i]).run = _ from t2098_2 l t p0 p1 p2 p3 p4 p5 ov os oh cv cs ch rd po ca m i]
    obtain ⟨k, hk⟩ : ∃ k : Nat, i.I = k := ⟨i.I.toNat, by omega⟩
    simp only [hk, hm, Int.toNat_natCast, Nat.reduceAdd, ix_def, bx_def, sil_row] at h hi0 hi1 ⊢
    refine rd_if (fun hlt => ?_) fun hge => rd_out (first_end h (by omega))
    obtain ⟨s1, s2⟩ := first_step h (by omega : k < l.L.length)
    refine rd_dec (by omega) (rd_yes ⟨⟨(hlo k (by omega)).1, (hlo k (by omega)).2⟩, ht⟩ (rd_ite (fun c => rd_out (s1 c)) fun c => ?_))
    rw [wrap_succ (by omega)]
    exact rd_again ((need_yes ⟨hl, hlo, ht, rfl, by simp only [I_i]; omega, by simp only [I_i, L_l]; omega⟩).trans (s2 c)) (show ((l.L.length : Int) - ((k + 1 : Nat) : Int)).toNat < (m.I - i.I).toNat by omega)
  · cases h
theorem ok2098 (n : Nat) : FnOK C (n + 2) 98 (mkF s2098 G2098) := by
  refine fn_ofS hC (sp := sp2098) (lp := lp2098) (sw := sw2098) ⟨ok86 n, trivial⟩ trivial (by kernel_rfl) [2] (by kernel_rfl) (by kernel_rfl) (fun k hk L hL => by simp at hk; subst hk; cases hL; exact ok2098_2 n) fun ds r h => ?_
  unfold G2098 at h
  split at h
  · rename_i l t p0 p1 p2 p3 p4 p5 ov os oh cv cs ch rd po ca
    obtain ⟨hp, h⟩ := need_some h
    rw [yes_iff] at hp
    refine (t2098 l t p0 p1 p2 p3 p4 p5 ov os oh cv cs ch rd po ca).trans ?_
    rw [← h]
    simp only [Int.toNat_zero, Nat.sub_zero]
    refine go_yes ⟨hp.1, hp.2.1, hp.2.2, by first | trivial | rfl, by omega, by omega⟩ (go_if (fun c => rfl) fun c => ?_)
    rw [fst_end c]
  · cases h
theorem ok2084 (n : Nat) : FnOK C (n + 3) 84 (mkF s2084 G2084) := by
  refine fn_ofS hC (sp := sp2084) (lp := lp2084) (sw := sw2084) ⟨ok2098 n, ok86 (n + 1), trivial⟩ trivial (by kernel_rfl) [] (by kernel_rfl) rfl (fun k hk => by cases hk) fun ds r h => ?_
  unfold G2084 at h
  split at h
  · rename_i l t p0 p1 p2 p3 p4 p5 ov os oh cv cs ch rd po ca
    obtain ⟨hp, h⟩ := need_some h
    rw [yes_iff] at hp
    refine (t2084 l t p0 p1 p2 p3 p4 p5 ov os oh cv cs ch rd po ca).trans ?_
    rw [← h]
    refine go_yes hp ?_
    rw [fst_all]
  · cases h
theorem ok1100_2 (n : Nat) : LoopSim C (n + 1) 100 (loopOf C.P 100 2) (mkL l1100_2 G1100_2) := by
  refine loop_ofK hC (sp := sp1100) (lp := lp1100) (sw := sw1100) ⟨ok92 n, trivial⟩ trivial 0 [] (by kernel_rfl) rfl (fun k hk => by cases hk) (by kernel_rfl) (fun ds => ((ds.getD 1 default).I - (ds.getD 2 default).I).toNat) fun ds rr h => ?_
  unfold G1100_2 at h
  split at h
  · rename_i l  m i
    obtain ⟨hp, h⟩ := need_some h
    rw [yes_iff] at hp
    obtain ⟨hl, hm, hi0, hi1⟩ := hp
    have hb := big_eq
    refine ⟨by rw [fuelC]; simp; omega, ?_⟩
    rw [show (roundTK C (mkTab sp1100 lp1100 sw1100) 100 (loopOf C.P 100 2) 0 l1100_2 [l, m, i]).run = _ from t1100_2 l  m i]
    obtain ⟨k, hk⟩ : ∃ k : Nat, i.I = k := ⟨i.I.toNat, by omega⟩
    simp only [hk, hm, Int.toNat_natCast, Nat.reduceAdd, ix_def, bx_def, st_row] at h hi0 hi1 ⊢
    refine rd_if (fun hlt => ?_) fun hge => rd_out (first_end h (by omega))
    obtain ⟨s1, s2⟩ := first_step h (by omega : k < l.L.length)
    refine rd_dec (by omega) (rd_ite (fun c => rd_out (s1 c)) fun c => ?_)
    rw [wrap_succ (by omega)]
    exact rd_again ((need_yes ⟨hl, rfl, by simp only [I_i]; omega, by simp only [I_i, L_l]; omega⟩).trans (s2 c)) (show ((l.L.length : Int) - ((k + 1 : Nat) : Int)).toNat < (m.I - i.I).toNat by omega)
  · cases h
theorem ok1100 (n : Nat) : FnOK C (n + 2) 100 (mkF s1100 G1100) := by
  refine fn_ofS hC (sp := sp1100) (lp := lp1100) (sw := sw1100) ⟨ok92 n, trivial⟩ trivial (by kernel_rfl) [2] (by kernel_rfl) (by kernel_rfl) (fun k hk L hL => by simp at hk; subst hk; cases hL; exact ok1100_2 n) fun ds r h => ?_
  unfold G1100 at h
  split at h
  · rename_i l
    obtain ⟨hp, h⟩ := need_some h
    rw [yes_iff] at hp
    refine (t1100 l).trans ?_
    rw [← h]
    simp only [Int.toNat_zero, Nat.sub_zero]
    refine go_yes ⟨hp, by first | trivial | rfl, by omega, by omega⟩ (go_if (fun c => rfl) fun c => ?_)
    rw [fst_end c]
  · cases h
theorem ok1091 (n : Nat) : FnOK C (n + 3) 91 (mkF s1091 G1091) := by
  refine fn_ofS hC (sp := sp1091) (lp := lp1091) (sw := sw1091) ⟨ok1100 n, ok92 (n + 1), trivial⟩ trivial (by kernel_rfl) [] (by kernel_rfl) rfl (fun k hk => by cases hk) fun ds r h => ?_
  unfold G1091 at h
  split at h
  · rename_i l
    obtain ⟨hp, h⟩ := need_some h
    rw [yes_iff] at hp
    refine (t1091 l).trans ?_
    rw [← h]
    refine go_yes hp ?_
    rw [fst_all]
  · cases h
theorem ok2100_2 (n : Nat) : LoopSim C (n + 2) 100 (loopOf C.P 100 2) (mkL l2100_2 G2100_2) := by
  refine loop_ofK hC (sp := sp2100) (lp := lp2100) (sw := sw2100) ⟨ok1099 n, ok88 (n + 1), trivial⟩ trivial 0 [] (by kernel_rfl) rfl (fun k hk => by cases hk) (by kernel_rfl) (fun ds => ((ds.getD 16 default).I - (ds.getD 17 default).I).toNat) fun ds rr h => ?_
  unfold G2100_2 at h
  split at h
  · rename_i l p0 p1 p2 p3 p4 p5 ov os oh cv cs ch rd po ca m i
    obtain ⟨hp, h⟩ := need_some h
    rw [yes_iff] at hp
    obtain ⟨hl, hpl, hm, hi0, hi1⟩ := hp
    have hb := big_eq
    refine ⟨by rw [fuelC]; simp; omega, ?_⟩
    rw [show (roundTK C (mkTab sp2100 lp2100 sw2100) 100 (loopOf C.P 100 2) 0 l2100_2 [l, p0, p1, p2, p3, p4, p5, ov, os, oh, cv, cs, ch, rd, po, ca, m, i]).run = _ from t2100_2 l p0 p1 p2 p3 p4 p5 ov os oh cv cs ch rd po ca m i]
    obtain ⟨k, hk⟩ : ∃ k : Nat, i.I = k := ⟨i.I.toNat, by omega⟩
    simp only [hk, hm, Int.toNat_natCast, Nat.reduceAdd, ix_def, bx_def, bef_row] at h hi0 hi1 ⊢
    refine rd_if (fun hlt => ?_) fun hge => rd_out (first_end h (by omega))
    obtain ⟨s1, s2⟩ := first_step h (by omega : k < l.L.length)
    refine rd_dec (by omega) (rd_yes hpl (rd_ite (fun c => rd_out (s1 c)) fun c => ?_))
    rw [wrap_succ (by omega)]
    exact rd_again ((need_yes ⟨hl, hpl, rfl, by simp only [I_i]; omega, by simp only [I_i, L_l]; omega⟩).trans (s2 c)) (show ((l.L.length : Int) - ((k + 1 : Nat) : Int)).toNat < (m.I - i.I).toNat by omega)
  · cases h
theorem ok2100 (n : Nat) : FnOK C (n + 3) 100 (mkF s2100 G2100) := by
  refine fn_ofS hC (sp := sp2100) (lp := lp2100) (sw := sw2100) ⟨ok1099 n, ok88 (n + 1), trivial⟩ trivial (by kernel_rfl) [2] (by kernel_rfl) (by kernel_rfl) (fun k hk L hL => by simp at hk; subst hk; cases hL; exact ok2100_2 n) fun ds r h => ?_
  unfold G2100 at h
  split at h
  · rename_i l p0 p1 p2 p3 p4 p5 ov os oh cv cs ch rd po ca
    obtain ⟨hp, h⟩ := need_some h
    rw [yes_iff] at hp
    refine (t2100 l p0 p1 p2 p3 p4 p5 ov os oh cv cs ch rd po ca).trans ?_
    rw [← h]
    simp only [Int.toNat_zero, Nat.sub_zero]
    refine go_yes ⟨hp.1, hp.2, by first | trivial | rfl, by omega, by omega⟩ (go_if (fun c => rfl) fun c => ?_)
    rw [fst_end c]
  · cases h
theorem ok2091 (n : Nat) : FnOK C (n + 4) 91 (mkF s2091 G2091) := by
  refine fn_ofS hC (sp := sp2091) (lp := lp2091) (sw := sw2091) ⟨ok2100 n, ok1099 (n + 1), ok88 (n + 2), trivial⟩ trivial (by kernel_rfl) [] (by kernel_rfl) rfl (fun k hk => by cases hk) fun ds r h => ?_
  unfold G2091 at h
  split at h
  · rename_i l p0 p1 p2 p3 p4 p5 ov os oh cv cs ch rd po ca
    obtain ⟨hp, h⟩ := need_some h
    rw [yes_iff] at hp
    refine (t2091 l p0 p1 p2 p3 p4 p5 ov os oh cv cs ch rd po ca).trans ?_
    rw [← h]
    refine go_yes hp ?_
    rw [fst_all]
  · cases h
theorem ok3100_2 (n : Nat) : LoopSim C (n + 2) 100 (loopOf C.P 100 2) (mkL l3100_2 G3100_2) := by
  refine loop_ofK hC (sp := sp3100) (lp := lp3100) (sw := sw3100) ⟨ok2099 n, ok89 (n + 1), trivial⟩ trivial 0 [] (by kernel_rfl) rfl (fun k hk => by cases hk) (by kernel_rfl) (fun ds => ((ds.getD 17 default).I - (ds.getD 18 default).I).toNat) fun ds rr h => ?_
  unfold G3100_2 at h
  split at h
  · rename_i l p0 p1 p2 p3 p4 p5 ov os oh cv cs ch rd po ca t m i
    obtain ⟨hp, h⟩ := need_some h
    rw [yes_iff] at hp
    obtain ⟨hl, hpl, hca, ht, hm, hi0, hi1⟩ := hp
    have hb := big_eq
    refine ⟨by rw [fuelC]; simp; omega, ?_⟩
    rw [show (roundTK C (mkTab sp3100 lp3100 sw3100) 100 (loopOf C.P 100 2) 0 l3100_2 [l, p0, p1, p2, p3, p4, p5, ov, os, oh, cv, cs, ch, rd, po, ca, t, m, i]).run = _ from t3100_2 l p0 p1 p2 p3 p4 p5 ov os oh cv cs ch rd po ca t m i]
    obtain ⟨k, hk⟩ : ∃ k : Nat, i.I = k := ⟨i.I.toNat, by omega⟩
    simp only [hk, hm, Int.toNat_natCast, Nat.reduceAdd, ix_def, bx_def, mis_row] at h hi0 hi1 ⊢
    refine rd_if (fun hlt => ?_) fun hge => rd_out (first_end h (by omega))
    obtain ⟨s1, s2⟩ := first_step h (by omega : k < l.L.length)
    refine rd_dec (by omega) (rd_yes ⟨hpl, (hca k (by omega)).1, ht⟩ (rd_ite (fun c => rd_out (s1 c)) fun c => ?_))
    rw [wrap_succ (by omega)]
    exact rd_again ((need_yes ⟨hl, hpl, hca, ht, rfl, by simp only [I_i]; omega, by simp only [I_i, L_l]; omega⟩).trans (s2 c)) (show ((l.L.length : Int) - ((k + 1 : Nat) : Int)).toNat < (m.I - i.I).toNat by omega)
  · cases h
theorem ok3100 (n : Nat) : FnOK C (n + 3) 100 (mkF s3100 G3100) := by
  refine fn_ofS hC (sp := sp3100) (lp := lp3100) (sw := sw3100) ⟨ok2099 n, ok89 (n + 1), trivial⟩ trivial (by kernel_rfl) [2] (by kernel_rfl) (by kernel_rfl) (fun k hk L hL => by simp at hk; subst hk; cases hL; exact ok3100_2 n) fun ds r h => ?_
  unfold G3100 at h
  split at h
  · rename_i l p0 p1 p2 p3 p4 p5 ov os oh cv cs ch rd po ca t
    obtain ⟨hp, h⟩ := need_some h
    rw [yes_iff] at hp
    refine (t3100 l p0 p1 p2 p3 p4 p5 ov os oh cv cs ch rd po ca t).trans ?_
    rw [← h]
    simp only [Int.toNat_zero, Nat.sub_zero]
    refine go_yes ⟨hp.1, hp.2.1, hp.2.2.1, hp.2.2.2, by first | trivial | rfl, by omega, by omega⟩ (go_if (fun c => rfl) fun c => ?_)
    rw [fst_end c]
  · cases h
theorem ok3091 (n : Nat) : FnOK C (n + 4) 91 (mkF s3091 G3091) := by
  refine fn_ofS hC (sp := sp3091) (lp := lp3091) (sw := sw3091) ⟨ok3100 n, ok2099 (n + 1), ok89 (n + 2), trivial⟩ trivial (by kernel_rfl) [] (by kernel_rfl) rfl (fun k hk => by cases hk) fun ds r h => ?_
  unfold G3091 at h
  split at h
  · rename_i l p0 p1 p2 p3 p4 p5 ov os oh cv cs ch rd po ca t
    obtain ⟨hp, h⟩ := need_some h
    rw [yes_iff] at hp
    refine (t3091 l p0 p1 p2 p3 p4 p5 ov os oh cv cs ch rd po ca t).trans ?_
    rw [← h]
    refine go_yes hp ?_
    rw [fst_all]
  · cases h
theorem ok4100_2 (n : Nat) : LoopSim C (n + 2) 100 (loopOf C.P 100 2) (mkL l4100_2 G4100_2) := by
  refine loop_ofK hC (sp := sp4100) (lp := lp4100) (sw := sw4100) ⟨ok3099 n, ok90 (n + 1), trivial⟩ trivial 0 [] (by kernel_rfl) rfl (fun k hk => by cases hk) (by kernel_rfl) (fun ds => ((ds.getD 17 default).I - (ds.getD 18 default).I).toNat) fun ds rr h => ?_
  unfold G4100_2 at h
  split at h
  · rename_i l t p0 p1 p2 p3 p4 p5 ov os oh cv cs ch rd po ca m i
    obtain ⟨hp, h⟩ := need_some h
    rw [yes_iff] at hp
    obtain ⟨hl, hpl, hca, ht, hm, hi0, hi1⟩ := hp
    have hb := big_eq
    refine ⟨by rw [fuelC]; simp; omega, ?_⟩
    rw [show (roundTK C (mkTab sp4100 lp4100 sw4100) 100 (loopOf C.P 100 2) 0 l4100_2 [l, t, p0, p1, p2, p3, p4, p5, ov, os, oh, cv, cs, ch, rd, po, ca, m, i]).run = _ from t4100_2 l t p0 p1 p2 p3 p4 p5 ov os oh cv cs ch rd po ca m i]
    obtain ⟨k, hk⟩ : ∃ k : Nat, i.I = k := ⟨i.I.toNat, by omega⟩
    simp only [hk, hm, Int.toNat_natCast, Nat.reduceAdd, ix_def, bx_def, int_row] at h hi0 hi1 ⊢
    refine rd_if (fun hlt => ?_) fun hge => rd_out (first_end h (by omega))
    obtain ⟨s1, s2⟩ := first_step h (by omega : k < l.L.length)
    refine rd_dec (by omega) (rd_yes ⟨hpl, ht⟩ (rd_ite (fun c => rd_out (s1 c)) fun c => ?_))
    rw [wrap_succ (by omega)]
    exact rd_again ((need_yes ⟨hl, hpl, hca, ht, rfl, by simp only [I_i]; omega, by simp only [I_i, L_l]; omega⟩).trans (s2 c)) (show ((l.L.length : Int) - ((k + 1 : Nat) : Int)).toNat < (m.I - i.I).toNat by omega)
  · cases h
theorem ok4100 (n : Nat) : FnOK C (n + 3) 100 (mkF s4100 G4100) := by
  refine fn_ofS hC (sp := sp4100) (lp := lp4100) (sw := sw4100) ⟨ok3099 n, ok90 (n + 1), trivial⟩ trivial (by kernel_rfl) [2] (by kernel_rfl) (by kernel_rfl) (fun k hk L hL => by simp at hk; subst hk; cases hL; exact ok4100_2 n) fun ds r h => ?_
  unfold G4100 at h
  split at h
  · rename_i l t p0 p1 p2 p3 p4 p5 ov os oh cv cs ch rd po ca
    obtain ⟨hp, h⟩ := need_some h
    rw [yes_iff] at hp
    refine (t4100 l t p0 p1 p2 p3 p4 p5 ov os oh cv cs ch rd po ca).trans ?_
    rw [← h]
    simp only [Int.toNat_zero, Nat.sub_zero]
    refine go_yes ⟨hp.1, hp.2.1, hp.2.2.1, hp.2.2.2, by first | trivial | rfl, by omega, by omega⟩ (go_if (fun c => rfl) fun c => ?_)
    rw [fst_end c]
  · cases h
theorem ok4091 (n : Nat) : FnOK C (n + 4) 91 (mkF s4091 G4091) := by
  refine fn_ofS hC (sp := sp4091) (lp := lp4091) (sw := sw4091) ⟨ok4100 n, ok3099 (n + 1), ok90 (n + 2), trivial⟩ trivial (by kernel_rfl) [] (by kernel_rfl) rfl (fun k hk => by cases hk) fun ds r h => ?_
  unfold G4091 at h
  split at h
  · rename_i l t p0 p1 p2 p3 p4 p5 ov os oh cv cs ch rd po ca
    obtain ⟨hp, h⟩ := need_some h
    rw [yes_iff] at hp
    refine (t4091 l t p0 p1 p2 p3 p4 p5 ov os oh cv cs ch rd po ca).trans ?_
    rw [← h]
    refine go_yes hp ?_
    rw [fst_all]
  · cases h
theorem ok1087 (n : Nat) : FnOK C (n + 5) 87 (mkF s1087 G1087) := by
  refine fn_ofS hC (sp := sp1087) (lp := lp1087) (sw := sw1087) ⟨ok2091 n, ok88 (n + 3), ok1099 (n + 2), trivial⟩ trivial (by kernel_rfl) [] (by kernel_rfl) rfl (fun k hk => by cases hk) fun ds r h => ?_
  unfold G1087 at h
  split at h
  · rename_i p0 p1 p2 p3 p4 p5 ov os oh cv cs ch rd po ca q0 q1 q2 q3 q4 q5 x6 x7 x8 x9 x10 x11 x12 x13 x14
    obtain ⟨hp, h⟩ := need_some h
    rw [yes_iff] at hp
    refine (t1087 p0 p1 p2 p3 p4 p5 ov os oh cv cs ch rd po ca q0 q1 q2 q3 q4 q5 x6 x7 x8 x9 x10 x11 x12 x13 x14).trans ?_
    rw [← h]
    exact go_yes ⟨hp.2, hp.1⟩ rfl
  · cases h
theorem ok2087 (n : Nat) : FnOK C (n + 5) 87 (mkF s2087 G2087) := by
  refine fn_ofS hC (sp := sp2087) (lp := lp2087) (sw := sw2087) ⟨ok3091 n, ok89 (n + 3), ok2099 (n + 2), trivial⟩ trivial (by kernel_rfl) [] (by kernel_rfl) rfl (fun k hk => by cases hk) fun ds r h => ?_
  unfold G2087 at h
  split at h
  · rename_i p0 p1 p2 p3 p4 p5 ov os oh cv cs ch rd po ca q0 q1 q2 q3 q4 q5 x6 x7 x8 x9 x10 x11 x12 x13 x14 t
    obtain ⟨hp, h⟩ := need_some h
    rw [yes_iff] at hp
    refine (t2087 p0 p1 p2 p3 p4 p5 ov os oh cv cs ch rd po ca q0 q1 q2 q3 q4 q5 x6 x7 x8 x9 x10 x11 x12 x13 x14 t).trans ?_
    rw [← h]
    exact go_yes ⟨hp.2.1, hp.1, hp.2.2.1, hp.2.2.2⟩ rfl
  · cases h
theorem ok3087 (n : Nat) : FnOK C (n + 5) 87 (mkF s3087 G3087) := by
  refine fn_ofS hC (sp := sp3087) (lp := lp3087) (sw := sw3087) ⟨ok4091 n, ok90 (n + 3), ok3099 (n + 2), trivial⟩ trivial (by kernel_rfl) [] (by kernel_rfl) rfl (fun k hk => by cases hk) fun ds r h => ?_
  unfold G3087 at h
  split at h
  · rename_i p0 p1 p2 p3 p4 p5 ov os oh cv cs ch rd po ca t q0 q1 q2 q3 q4 q5 x6 x7 x8 x9 x10 x11 x12 x13 x14
    obtain ⟨hp, h⟩ := need_some h
    rw [yes_iff] at hp
    refine (t3087 p0 p1 p2 p3 p4 p5 ov os oh cv cs ch rd po ca t q0 q1 q2 q3 q4 q5 x6 x7 x8 x9 x10 x11 x12 x13 x14).trans ?_
    rw [← h]
    exact go_yes ⟨hp.2.1, hp.1, hp.2.2.1, hp.2.2.2⟩ rfl
  · cases h
theorem ok65 (n : Nat) : FnOK C (n + 1) 65 (mkF s65 G65) := by
  refine fn_ofS hC (sp := sp65) (lp := lp65) (sw := sw65) trivial trivial (by kernel_rfl) [] (by kernel_rfl) rfl (fun k hk => by cases hk) fun ds r h => ?_
  unfold G65 at h
  split at h
  · rename_i p0 p1 p2 p3 p4 p5 ov os oh cv cs ch rd po ca car t
    refine (t65 p0 p1 p2 p3 p4 p5 ov os oh cv cs ch rd po ca car t).trans ?_
    rw [← h]
  · cases h
theorem ok66 (n : Nat) : FnOK C (n + 4) 66 (mkF s66 G66) := by
  refine fn_ofS hC (sp := sp66) (lp := lp66) (sw := sw66) ⟨ok1084 n, trivial⟩ trivial (by kernel_rfl) [] (by kernel_rfl) rfl (fun k hk => by cases hk) fun ds r h => ?_
  unfold G66 at h
  split at h
  · rename_i p0 p1 p2 p3 p4 p5 ov os oh cv cs ch rd po ca car t
    obtain ⟨hp, h⟩ := need_some h
    rw [yes_iff] at hp
    refine (t66 p0 p1 p2 p3 p4 p5 ov os oh cv cs ch rd po ca car t).trans ?_
    rw [← h]
    exact go_yes hp rfl
  · cases h
theorem ok67 (n : Nat) : FnOK C (n + 4) 67 (mkF s67 G67) := by
  refine fn_ofS hC (sp := sp67) (lp := lp67) (sw := sw67) ⟨ok2084 n, ok86 (n + 2), trivial⟩ trivial (by kernel_rfl) [] (by kernel_rfl) rfl (fun k hk => by cases hk) fun ds r h => ?_
  unfold G67 at h
  split at h
  · rename_i p0 p1 p2 p3 p4 p5 ov os oh cv cs ch rd po ca car t
    obtain ⟨hp, h⟩ := need_some h
    rw [yes_iff] at hp
    refine (t67 p0 p1 p2 p3 p4 p5 ov os oh cv cs ch rd po ca car t).trans ?_
    rw [← h]
    exact go_yes hp rfl
  · cases h
theorem ok68 (n : Nat) : FnOK C (n + 1) 68 (mkF s68 G68) := by
  refine fn_ofS hC (sp := sp68) (lp := lp68) (sw := sw68) trivial trivial (by kernel_rfl) [] (by kernel_rfl) rfl (fun k hk => by cases hk) fun ds r h => ?_
  unfold G68 at h
  split at h
  · rename_i p0 p1 p2 p3 p4 p5 ov os oh cv cs ch rd po ca car t
    refine (t68 p0 p1 p2 p3 p4 p5 ov os oh cv cs ch rd po ca car t).trans ?_
    rw [← h]
  · cases h
theorem ok69 (n : Nat) : FnOK C (n + 6) 69 (mkF s69 G69) := by
  refine fn_ofS hC (sp := sp69) (lp := lp69) (sw := sw69) ⟨ok1087 n, ok88 (n + 4), trivial⟩ trivial (by kernel_rfl) [] (by kernel_rfl) rfl (fun k hk => by cases hk) fun ds r h => ?_
  unfold G69 at h
  split at h
  · rename_i p0 p1 p2 p3 p4 p5 ov os oh cv cs ch rd po ca car t
    obtain ⟨hp, h⟩ := need_some h
    rw [yes_iff] at hp
    refine (t69 p0 p1 p2 p3 p4 p5 ov os oh cv cs ch rd po ca car t).trans ?_
    rw [← h]
    exact go_yes hp rfl
  · cases h
theorem ok70 (n : Nat) : FnOK C (n + 6) 70 (mkF s70 G70) := by
  refine fn_ofS hC (sp := sp70) (lp := lp70) (sw := sw70) ⟨ok2087 n, ok89 (n + 4), trivial⟩ trivial (by kernel_rfl) [] (by kernel_rfl) rfl (fun k hk => by cases hk) fun ds r h => ?_
  unfold G70 at h
  split at h
  · rename_i p0 p1 p2 p3 p4 p5 ov os oh cv cs ch rd po ca car t
    obtain ⟨hp, h⟩ := need_some h
    rw [yes_iff] at hp
    refine (t70 p0 p1 p2 p3 p4 p5 ov os oh cv cs ch rd po ca car t).trans ?_
    rw [← h]
    exact go_yes hp rfl
  · cases h
theorem ok71 (n : Nat) : FnOK C (n + 6) 71 (mkF s71 G71) := by
  refine fn_ofS hC (sp := sp71) (lp := lp71) (sw := sw71) ⟨ok3087 n, ok90 (n + 4), trivial⟩ trivial (by kernel_rfl) [] (by kernel_rfl) rfl (fun k hk => by cases hk) fun ds r h => ?_
  unfold G71 at h
  split at h
  · rename_i p0 p1 p2 p3 p4 p5 ov os oh cv cs ch rd po ca car t
    obtain ⟨hp, h⟩ := need_some h
    rw [yes_iff] at hp
    refine (t71 p0 p1 p2 p3 p4 p5 ov os oh cv cs ch rd po ca car t).trans ?_
    rw [← h]
    exact go_yes hp rfl
  · cases h
theorem ok72 (n : Nat) : FnOK C (n + 4) 72 (mkF s72 G72) := by
  refine fn_ofS hC (sp := sp72) (lp := lp72) (sw := sw72) ⟨ok1091 n, trivial⟩ trivial (by kernel_rfl) [] (by kernel_rfl) rfl (fun k hk => by cases hk) fun ds r h => ?_
  unfold G72 at h
  split at h
  · rename_i p0 p1 p2 p3 p4 p5 ov os oh cv cs ch rd po ca car t
    obtain ⟨hp, h⟩ := need_some h
    rw [yes_iff] at hp
    refine (t72 p0 p1 p2 p3 p4 p5 ov os oh cv cs ch rd po ca car t).trans ?_
    rw [← h]
    have e : List.take (ca.L.length - car.I.toNat) (List.drop car.I.toNat ca.L) = List.drop car.I.toNat ca.L := List.take_of_length_le (by simp)
    rw [e]
    exact go_dec ⟨hp.2.1, hp.2.2⟩ (go_yes (by rw [List.length_drop]; omega) rfl)
  · cases h
end Go.Proofs.Ytgmefblkmidglaa
namespace Go.Proofs.Ytgmefblkmidglaa
open Go.Lite
set_option maxRecDepth 100000
set_option linter.unusedVariables false
theorem set_get {l : List (List D)} {k : Nat} (h : k < l.length) (a : List D) : (l.set k a).getD k [] = a := by
  rw [List.getD_eq_getElem?_getD, List.getElem?_set_self h]
  rfl
section
variable (c : List D) (x : D)
theorem u3_0 : updC c [x] (0 + 0) 0 (List.length [K.bool, K.int .i64, K.bool]) = [x, c.getD 1 default, c.getD 2 default] := by simp [updC]
theorem u3_1 : updC c [x] 1 0 (List.length [K.bool, K.int .i64, K.bool]) = [c.getD 0 default, x, c.getD 2 default] := by simp [updC]
theorem u3_2 : updC c [x] (0 + 2) 0 (List.length [K.bool, K.int .i64, K.bool]) = [c.getD 0 default, c.getD 1 default, x] := by simp [updC]
theorem u5_2 : updC c [x] (0 + 2) 0 (List.length [K.bool, K.int .i64, K.int .i64, K.bool, K.bool]) = [c.getD 0 default, c.getD 1 default, x, c.getD 3 default, c.getD 4 default] := by simp [updC]
theorem u5_3 : updC c [x] (0 + 3) 0 (List.length [K.bool, K.int .i64, K.int .i64, K.bool, K.bool]) = [c.getD 0 default, c.getD 1 default, c.getD 2 default, x, c.getD 4 default] := by simp [updC]
theorem u5_4 : updC c [x] (0 + 4) 0 (List.length [K.bool, K.int .i64, K.int .i64, K.bool, K.bool]) = [c.getD 0 default, c.getD 1 default, c.getD 2 default, c.getD 3 default, x] := by simp [updC]
end
theorem mx_def (a b : Int) : (if b > a then b else a) = mxI a b := rfl
theorem new_t1 {h : Bool} {s0 : Int} {v bad : Bool} {s : Int} (c : (!h) = true) : newB h s0 v bad s = true := by unfold newB; rw [c]; rfl
theorem new_t2 {h : Bool} {s0 : Int} {v bad : Bool} {s : Int} (c : s > s0) : newB h s0 v bad s = true := by unfold newB; rw [decide_eq_true c]; simp
theorem new_t3 {h : Bool} {s0 : Int} {v bad : Bool} {s : Int} (c : (s == s0) = true) (d : (v == bad) = true) : newB h s0 v bad s = true := by unfold newB; rw [c, d]; simp
theorem new_f1 {h : Bool} {s0 : Int} {v bad : Bool} {s : Int} (a : (!h) = false) (b : ¬ s > s0) (c : (s == s0) = true) (d : (v == bad) = false) : newB h s0 v bad s = false := by unfold newB; rw [a, decide_eq_false b, c, d]; rfl
theorem new_f2 {h : Bool} {s0 : Int} {v bad : Bool} {s : Int} (a : (!h) = false) (b : ¬ s > s0) (c : (s == s0) = false) : newB h s0 v bad s = false := by unfold newB; rw [a, decide_eq_false b, c]; rfl
theorem ok1064 (n : Nat) : FnOKW C (n + 1) 64 (mkFW s1064 G1064) := by
  refine fn_ofW hC (sp := sp1064) (lp := lp1064) (sw := sw1064) trivial trivial (by kernel_rfl) [] (by kernel_rfl) rfl (fun k hk => by cases hk) fun ds r hh => ?_
  unfold G1064 at hh
  split at hh
  · rename_i v s b p0 p1 p2 p3 p4 p5 ov os oh cv cs ch nr np nc rd po ca
    obtain ⟨⟨hr, hp, hc⟩, hh⟩ : ((nr.I = rd.L.length ∧ np.I = po.L.length ∧ nc.I = ca.L.length) ∧ _) := by
      obtain ⟨hp, hh⟩ := need_some hh
      rw [yes_iff] at hp
      exact ⟨hp, hh⟩
    refine (t1064 v s b p0 p1 p2 p3 p4 p5 ov os oh cv cs ch nr np nc rd po ca).trans ?_
    rw [← hh]
    simp only [hr, hp, hc, Int.toNat_natCast, mx_def]
    unfold hearV
    refine go_ite (fun c1 => by rw [new_t1 c1]; rfl) fun c1 => go_if (fun c2 => by rw [new_t2 c2]; rfl) fun c2 => go_ite (fun c3 => go_ite (fun c4 => by rw [new_t3 c3 c4]; rfl) fun c4 => by rw [new_f1 c1 c2 c3 c4]; rfl) fun c3 => by rw [new_f2 c1 c2 c3]; rfl
  · cases hh
theorem ok2064 (n : Nat) : FnOKW C (n + 1) 64 (mkFW s2064 G2064) := by
  refine fn_ofW hC (sp := sp2064) (lp := lp2064) (sw := sw2064) trivial trivial (by kernel_rfl) [] (by kernel_rfl) rfl (fun k hk => by cases hk) fun ds r hh => ?_
  unfold G2064 at hh
  split at hh
  · rename_i v s b p0 p1 p2 p3 p4 p5 ov os oh cv cs ch nr np nc rd po ca
    obtain ⟨⟨hr, hp, hc⟩, hh⟩ : ((nr.I = rd.L.length ∧ np.I = po.L.length ∧ nc.I = ca.L.length) ∧ _) := by
      obtain ⟨hp, hh⟩ := need_some hh
      rw [yes_iff] at hp
      exact ⟨hp, hh⟩
    refine (t2064 v s b p0 p1 p2 p3 p4 p5 ov os oh cv cs ch nr np nc rd po ca).trans ?_
    rw [← hh]
    simp only [hr, hp, hc, Int.toNat_natCast, mx_def]
    unfold hearV
    refine go_ite (fun c1 => by rw [new_t1 c1]; rfl) fun c1 => go_if (fun c2 => by rw [new_t2 c2]; rfl) fun c2 => go_ite (fun c3 => go_ite (fun c4 => by rw [new_t3 c3 c4]; rfl) fun c4 => by rw [new_f1 c1 c2 c3 c4]; rfl) fun c3 => by rw [new_f2 c1 c2 c3]; rfl
  · cases hh
theorem ok3064 (n : Nat) : FnOKW C (n + 1) 64 (mkFW s3064 G3064) := by
  refine fn_ofW hC (sp := sp3064) (lp := lp3064) (sw := sw3064) trivial trivial (by kernel_rfl) [] (by kernel_rfl) rfl (fun k hk => by cases hk) fun ds r hh => ?_
  unfold G3064 at hh
  split at hh
  · rename_i k v s b l
    obtain ⟨hp, hh⟩ := need_some hh
    rw [yes_iff] at hp
    have hk : k.I.toNat < l.L.length := by omega
    refine (t3064 k v s b l).trans ?_
    rw [← hh]
    unfold hearL hearR
    have g1 : ∀ a, (l.L.set k.I.toNat a).getD k.I.toNat [] = a := fun a => set_get hk a
    simp only [u3_0, u3_1, u3_2, List.length_set, g1, List.set_set, mx_def, List.getD_cons_zero, List.getD_cons_succ, Nat.reduceAdd, ix_def, bx_def]
    refine go_dec hk (go_ite (fun c1 => ?_) fun c1 => go_dec hk (go_if (fun c2 => ?_) fun c2 => go_dec hk (go_ite (fun c3 => go_ite (fun c4 => ?_) fun c4 => ?_) fun c3 => ?_)))
    · rw [new_t1 c1]
      exact go_dec hk (go_dec hk (go_dec hk (go_dec hk rfl)))
    · rw [new_t2 c2]
      exact go_dec hk (go_dec hk (go_dec hk (go_dec hk rfl)))
    · rw [new_t3 c3 c4]
      exact go_dec hk (go_dec hk (go_dec hk (go_dec hk rfl)))
    · rw [new_f1 c1 c2 c3 c4]
      exact go_dec hk (go_dec hk (go_dec hk rfl))
    · rw [new_f2 c1 c2 c3]
      exact go_dec hk (go_dec hk (go_dec hk rfl))
  · cases hh
theorem ok63 (n : Nat) : FnOKW C (n + 2) 63 (mkFW s63 G63) := by
  refine fn_ofW hC (sp := sp63) (lp := lp63) (sw := sw63) trivial ⟨many_ok ⟨ok3064 n, trivial⟩, trivial⟩ (by kernel_rfl) [] (by kernel_rfl) rfl (fun k hk => by cases hk) fun ds r hh => ?_
  unfold G63 at hh
  split at hh
  · rename_i k s p c p0 p1 p2 p3 p4 p5 ov os oh cv cs ch nr np nc rd po ca
    obtain ⟨hp, hh⟩ := need_some hh
    rw [yes_iff] at hp
    obtain ⟨⟨hr, hpo, hc⟩, hp0, hp1⟩ := hp
    refine (t63 k s p c p0 p1 p2 p3 p4 p5 ov os oh cv cs ch nr np nc rd po ca).trans ?_
    rw [← hh]
    simp only [hr, hpo, hc, Int.toNat_natCast]
    have e : ((p.I.toNat : Nat) : Int) = p.I := by omega
    exact go_dec (by omega) (go_yes (by omega) (by rfl))
  · cases hh
theorem ok42 (n : Nat) : FnOK C (n + 2) 42 (mkF s42 G42) := by
  refine fn_ofS hC (sp := sp42) (lp := lp42) (sw := sw42) ⟨ok61 n, ok45 n, trivial⟩ trivial (by kernel_rfl) [] (by kernel_rfl) rfl (fun k hk => by cases hk) fun ds r hh => ?_
  unfold G42 at hh
  split at hh
  · rename_i p0 p1 p2 p3 p4 p5 ov os oh cv cs ch rd po ca car
    obtain ⟨hp, hh⟩ := need_some hh
    rw [yes_iff] at hp
    refine (t42 p0 p1 p2 p3 p4 p5 ov os oh cv cs ch rd po ca car).trans ?_
    rw [← hh]
    rw [wrap_id (by omega) (by omega), within_dec]
    refine go_notT (decide_eq_true (by omega)) (go_not (fun c => ?_) fun c => ?_)
    · have c := of_decide_eq_false c
      rw [decide_eq_false (show ¬ (0 ≤ car.I ∧ car.I ≤ p5.I - 1) by omega)]
      rfl
    · have c := of_decide_eq_true c
      rw [decide_eq_true (show (0 ≤ car.I ∧ car.I ≤ p5.I - 1) by omega)]
      exact go_dec (by omega) rfl
  · cases hh
end Go.Proofs.Ytgmefblkmidglaa
namespace Go.Proofs.Ytgmefblkmidglaa
open Go.Lite
set_option maxRecDepth 100000
set_option linter.unusedVariables false
theorem hear_len (l : List (List D)) (k : Nat) (v b : Bool) (s : Int) : (hearL l k v b s).length = l.length := by simp [hearL]
theorem ok38 (n : Nat) : FnOKW C (n + 3) 38 (mkFW s38 G38) := by
  refine fn_ofW hC (sp := sp38) (lp := lp38) (sw := sw38) ⟨ok61 (n + 1), ok62 n, trivial⟩ ⟨ok63 n, many_ok ⟨ok1064 (n + 1), ok2064 (n + 1), ok3064 (n + 1), trivial⟩, trivial⟩ (by kernel_rfl) [] (by kernel_rfl) rfl (fun k hk => by cases hk) fun ds r hh => ?_
  unfold G38 at hh
  split at hh
  · rename_i k s p c p0 p1 p2 p3 p4 p5 ov os oh cv cs ch nr np nc rd po ca
    obtain ⟨hp, hh⟩ := need_some hh
    rw [yes_iff] at hp
    obtain ⟨⟨hpl, ⟨hr, hpo, hc⟩, ⟨l1, l2, l3⟩, -, -, -⟩, -, -⟩ := hp
    have hpl' := hpl
    unfold okPl at hpl'
    refine (t38 k s p c p0 p1 p2 p3 p4 p5 ov os oh cv cs ch nr np nc rd po ca).trans ?_
    rw [← hh]
    simp only [hr, hpo, hc, Int.toNat_natCast, hear_len]
    refine go_dec (by omega) (go_dec (by omega) (go_dec (by omega) (go_notT (decide_eq_true (by rw [List.length_take]; omega)) (go_dec (by omega) (go_dec (by omega) (go_dec (by omega) (go_yes hpl (go_not (fun ce => ?_) fun ce => ?_))))))))
    · rw [ce]; rfl
    · rw [ce]
      have ce' := of_decide_eq_true ce
      obtain ⟨⟨hk1, hk2⟩, hs, hpp, hcc, hz1, hz2⟩ := ce'
      have h1 : 0 ≤ p.I ∧ p.I < (rd.L.length : Int) := by omega
      have h2 : 0 ≤ p.I ∧ p.I < (po.L.length : Int) := by omega
      have h3 : 0 ≤ c.I ∧ c.I < (ca.L.length : Int) := by omega
      have h4 : c.I.toNat < ca.L.length := by omega
      have h5 : 0 ≤ ((p.I.toNat : Nat) : Int) ∧ ((p.I.toNat : Nat) : Int) < (rd.L.length : Int) := by omega
      refine go_dec h3 ?_
      have hks : k.I = 1 ∨ k.I = 2 ∨ k.I = 3 ∨ k.I = 4 ∨ k.I = 5 ∨ k.I = 6 ∨ k.I = 7 ∨ k.I = 8 ∨ k.I = 9 ∨ k.I = 10 := by omega
      clear hh hz1 hz2
      rcases hks with e | e | e | e | e | e | e | e | e | e <;> rw [e]
      · exact (go_true rfl (go_true rfl (go_yes (by simp) (by rfl))))
      · exact (go_false rfl (go_true rfl (go_yes (by simp) (by rfl))))
      · exact (go_false rfl (go_false rfl (go_false rfl (go_false rfl (go_true rfl (go_yes ⟨by simp, h2⟩ (by rfl)))))))
      · exact (go_false rfl (go_false rfl (go_false rfl (go_false rfl (go_false rfl (go_true rfl (go_true rfl (go_dec h1 (go_yes h5 (go_yes ⟨by simp, h2⟩ (by rfl)))))))))))
      · exact (go_false rfl (go_false rfl (go_false rfl (go_false rfl (go_false rfl (go_false rfl (go_true rfl (go_dec h1 (go_yes h5 (go_yes ⟨by simp, h2⟩ (by rfl)))))))))))
      · exact (go_false rfl (go_false rfl (go_true rfl (go_true rfl (go_yes (by simp) (by rfl))))))
      · exact (go_false rfl (go_false rfl (go_false rfl (go_true rfl (go_yes (by simp) (by rfl))))))
      · refine (go_false rfl (go_false rfl (go_false rfl (go_false rfl (go_false rfl (go_false rfl (go_false rfl (go_true rfl (go_dec h4 (go_ite (fun c1 => go_dec h4 (go_dec h4 (go_yes ⟨by simp, h2⟩ ?_))) fun c1 => go_yes ⟨by simp, h2⟩ ?_))))))))))
        · have e8 : evCa 8 p.I c.I ca.L = _ := show postC ca.L c.I.toNat p.I = _ from if_pos c1
          rw [e8, u5_2]
          rfl
        · have e8 : evCa 8 p.I c.I ca.L = ca.L := show postC ca.L c.I.toNat p.I = _ from if_neg (by rw [show bx (ca.L.getD c.I.toNat []) 0 = false from c1]; decide)
          rw [e8]
          rfl
      · refine (go_false rfl (go_false rfl (go_false rfl (go_false rfl (go_false rfl (go_false rfl (go_false rfl (go_false rfl (go_true rfl (go_dec h4 (go_ite (fun c1 => go_dec h4 ?_) fun c1 => go_dec h4 (go_dec h4 ?_))))))))))))
        · have e8 : evCa 9 p.I c.I ca.L = safeC ca.L c.I.toNat := rfl
          rw [e8, u5_3]
          unfold safeC
          rw [show bx (ca.L.getD c.I.toNat []) 3 = true from c1]
          rfl
        · have e8 : evCa 9 p.I c.I ca.L = safeC ca.L c.I.toNat := rfl
          rw [e8, u5_3]
          unfold safeC
          rw [show bx (ca.L.getD c.I.toNat []) 3 = false from c1]
          rfl
      · refine (go_false rfl (go_false rfl (go_false rfl (go_false rfl (go_false rfl (go_false rfl (go_false rfl (go_false rfl (go_false rfl (go_true rfl (go_dec h4 (go_ite (fun c1 => go_dec h4 ?_) fun c1 => go_dec h4 (go_dec h4 ?_)))))))))))))
        · have e8 : evCa 10 p.I c.I ca.L = foundC ca.L c.I.toNat := rfl
          rw [e8, u5_4]
          unfold foundC
          rw [show bx (ca.L.getD c.I.toNat []) 4 = true from c1]
          rfl
        · have e8 : evCa 10 p.I c.I ca.L = foundC ca.L c.I.toNat := rfl
          rw [e8, u5_4]
          unfold foundC
          rw [show bx (ca.L.getD c.I.toNat []) 4 = false from c1]
          rfl
  · cases hh
end Go.Proofs.Ytgmefblkmidglaa
namespace Go.Proofs.Ytgmefblkmidglaa
open Go.Lite
set_option linter.unusedVariables false
set_option maxRecDepth 100000
theorem t40 (a b c d e f g h i j k l m n o p q r s t : D) : (fnTW C tab40 40 s40 [a, b, c, d, e, f, g, h, i, j, k, l, m, n, o, p, q, r, s, t]).run =
  T.run (T.need (decide (o.I.toNat ≤ r.L.length)) (T.need (decide (p.I.toNat ≤ s.L.length)) (T.need (decide (q.I.toNat ≤ t.L.length)) (T.ite (!decide (0 < List.length (List.take q.I.toNat t.L))) (T.leaf [D.i 0, D.i 1, D.i c.I, D.i d.I, D.i e.I, D.i f.I, D.i g.I, D.i h.I, D.b i.B, D.i j.I, D.b k.B, D.b l.B, D.i m.I, D.b n.B, D.i (o.I.toNat : Int), D.i (p.I.toNat : Int), D.i (q.I.toNat : Int), D.l r.L, D.l s.L, D.l t.L]) (T.ite (!within a.I (0 : Int) (IntKind.wrap IntKind.i64 (h.I - (1 : Int)))) (T.leaf [D.i 0, D.i 2, D.i c.I, D.i d.I, D.i e.I, D.i f.I, D.i g.I, D.i h.I, D.b i.B, D.i j.I, D.b k.B, D.b l.B, D.i m.I, D.b n.B, D.i (o.I.toNat : Int), D.i (p.I.toNat : Int), D.i (q.I.toNat : Int), D.l r.L, D.l s.L, D.l t.L]) (T.ite (!within b.I (0 : Int) (100000 : Int)) (T.leaf [D.i 0, D.i 2, D.i c.I, D.i d.I, D.i e.I, D.i f.I, D.i g.I, D.i h.I, D.b i.B, D.i j.I, D.b k.B, D.b l.B, D.i m.I, D.b n.B, D.i (o.I.toNat : Int), D.i (p.I.toNat : Int), D.i (q.I.toNat : Int), D.l r.L, D.l s.L, D.l t.L]) (T.need (yes ((↑0 : Int) = (0 : Int) ∧ (okG c.I d.I e.I f.I g.I h.I (o.I.toNat : Int) (p.I.toNat : Int) (q.I.toNat : Int) r.L s.L t.L ∧ tOK j.I ∧ tOK m.I) ∧ tOK b.I ∧ ((0 : Int) ≤ a.I ∧ a.I ≤ (t.L.length : Int)) ∧ (↑8 : Int) = (8 : Int) ∧ (↑8 : Int) = (8 : Int) ∧ (0 : Int) ≤ (0 : Int) ∧ (0 : Int) ≤ (8 : Int))) (T.ite (List.isEmpty (rulesF (ruleB c.I d.I e.I f.I g.I i.B l.B r.L s.L t.L a.I b.I) (Int.toNat (0 : Int)) (8 - Int.toNat (0 : Int)) [])) (T.leaf [D.i 0, D.i 0, D.i c.I, D.i d.I, D.i e.I, D.i f.I, D.i g.I, D.i h.I, D.b i.B, D.i j.I, D.b k.B, D.b l.B, D.i m.I, D.b n.B, D.i (↑(Int.toNat (o.I.toNat : Int)) : Int), D.i (↑(Int.toNat (p.I.toNat : Int)) : Int), D.i (↑(Int.toNat (q.I.toNat : Int)) : Int), D.l r.L, D.l s.L, D.l t.L]) (T.leaf [D.i 1, D.i (↑(Int.toNat (↑(List.length (rulesF (ruleB c.I d.I e.I f.I g.I i.B l.B r.L s.L t.L a.I b.I) (Int.toNat (0 : Int)) (8 - Int.toNat (0 : Int)) [])) : Int)) : Int), D.i 0, D.i c.I, D.i d.I, D.i e.I, D.i f.I, D.i g.I, D.i h.I, D.b i.B, D.i j.I, D.b k.B, D.b l.B, D.i m.I, D.b n.B, D.i (↑(Int.toNat (o.I.toNat : Int)) : Int), D.i (↑(Int.toNat (p.I.toNat : Int)) : Int), D.i (↑(Int.toNat (q.I.toNat : Int)) : Int), D.l r.L, D.l s.L, D.l t.L, D.l (rulesF (ruleB c.I d.I e.I f.I g.I i.B l.B r.L s.L t.L a.I b.I) (Int.toNat (0 : Int)) (8 - Int.toNat (0 : Int)) [])]))))))))) := by kernel_rfl
end Go.Proofs.Ytgmefblkmidglaa
