/-
  What the claim timetable_reasons rests on, part 6.
-/
import Derived.Test.YtipbcpobnciccaaZR5
import Derived.Test.YtipbcpobnciccaaProg
namespace Go.Proofs.Ytipbcpobnciccaa
open Go.Lite
def annL : List (Nat × Nat × List Nat) :=
  [(4, 6, [0, 3, 4, 5]),
   (4, 13, [0, 3, 4, 5, 6, 7]),
   (5, 12, [2, 6, 8, 10]),
   (7, 8, [0, 1, 2, 3, 9, 10, 11]),
   (8, 5, [0, 1, 2, 3, 9, 10]),
   (8, 20, [0, 2, 11, 16, 18]),
   (9, 12, [0, 7, 8, 11, 13, 14]),
   (11, 9, [2, 3, 5, 7]),
   (11, 18, [2, 3, 5, 7, 8, 10, 11]),
   (11, 27, [2, 3, 5, 15]),
   (12, 14, [0, 2, 7, 9, 11, 13, 15]),
   (14, 9, [2, 3, 4, 5, 9, 10, 11, 12, 13, 14]),
   (17, 9, [0, 5, 8, 9, 11, 12]),
   (17, 12, [0, 5, 8, 9, 11]),
   (17, 15, [0, 5, 8, 9, 11, 13, 73, 74]),
   (17, 21, [0, 5, 8, 9, 11, 13, 15, 90, 91, 92]),
   (17, 29, [5, 8, 11, 18, 19]),
   (18, 4, [0, 1, 5]),
   (20, 4, [2, 3, 11, 12, 13]),
   (21, 4, [0, 1, 5]),
   (22, 4, [0, 2, 3, 9, 10]),
   (22, 7, [0, 2, 3, 9, 10, 11, 12]),
   (22, 15, [2, 3, 9, 10, 14, 15]),
   (22, 18, [2, 3, 9, 10, 14, 15, 16]),
   (23, 7, [1, 2, 3, 5, 16]),
   (25, 4, [1, 3]),
   (26, 4, [1, 3]),
   (26, 12, [1, 3, 4, 5]),
   (27, 5, [2, 3, 5, 6]),
   (27, 15, [2, 3, 5, 8]),
   (30, 6, [2, 7, 8, 25, 26, 27]),
   (32, 4, [0, 1, 2, 7]),
   (32, 9, [1, 2, 8]),
   (35, 2, [0, 1, 5]),
   (39, 3, [8, 9, 10, 21, 22]),
   (40, 4, [0, 2, 8, 9, 10]),
   (40, 8, [0, 8, 9, 11]),
   (40, 12, [0, 8, 9, 11, 12, 13]),
   (41, 5, [1, 3, 24, 25, 26]),
   (42, 4, [1, 2, 4, 5, 6]),
   (42, 9, [1, 2, 4, 5, 7]),
   (42, 15, [1, 2, 4, 5, 7, 10]),
   (44, 5, [2, 3, 5, 58, 59, 60]),
   (49, 3, [5, 12, 13]),
   (50, 7, [1, 6, 7, 29, 30]),
   (50, 12, [1, 6, 7, 8, 9]),
   (51, 2, [0, 1, 7, 8]),
   (53, 1, [0, 2, 3]),
   (55, 3, [0, 5, 6]),
   (57, 4, [2, 3, 6, 7, 8, 24, 25, 26]),
   (57, 9, [2, 6, 7, 8, 45, 46]),
   (58, 3, [2, 3, 6, 7, 15, 16, 17]),
   (59, 2, [0, 1, 5]),
   (68, 3, [0, 1, 6, 18, 19]),
   (68, 9, [0, 1, 6, 8, 30, 31]),
   (68, 12, [0, 1, 6, 8, 30, 31, 36, 37, 38]),
   (69, 3, [0, 2, 7, 8]),
   (69, 7, [0, 2, 7, 8, 9, 10]),
   (72, 5, [1, 3, 6, 8, 9, 10]),
   (72, 8, [1, 3, 6, 8, 9, 10, 11]),
   (72, 32, [3, 6, 8, 9, 16]),
   (77, 2, [0, 1, 3, 12, 13, 14]),
   (77, 7, [0, 1, 3]),
   (77, 9, [0, 1, 3, 6]),
   (79, 3, [1, 5, 15, 16, 17]),
   (80, 2, [0, 1, 7, 8]),
   (81, 5, [0, 3, 4]),
   (82, 3, [0, 1, 5, 17, 18]),
   (82, 8, [0, 5]),
   (82, 10, [0, 5, 7, 31, 32, 33]),
   (88, 2, [0, 1, 7, 8])]
def annXL : List (Nat × Nat × Option Nat × List Nat) :=
  [(4, 6, some 0, [3, 4]),
   (4, 6, none, [2]),
   (4, 13, some 2, [0, 3, 4, 5, 6]),
   (4, 13, none, [2]),
   (5, 12, some 0, []),
   (5, 12, none, [4]),
   (7, 8, some 0, [0, 1, 2, 3, 9, 10]),
   (7, 8, none, [8]),
   (8, 5, some 0, [0, 1, 2, 3, 9]),
   (8, 5, none, [8]),
   (8, 20, some 2, []),
   (8, 20, none, [8]),
   (9, 12, some 0, [0, 7, 8, 11, 13]),
   (9, 12, none, [6]),
   (11, 9, some 0, [2, 3, 5]),
   (11, 9, none, [4]),
   (11, 18, some 2, [2, 3, 5, 7]),
   (11, 18, none, [4]),
   (11, 27, some 4, []),
   (11, 27, none, [4]),
   (12, 14, some 0, []),
   (12, 14, none, [6]),
   (14, 9, some 0, [2, 3, 4, 5, 9, 10, 11, 12, 13]),
   (14, 9, none, [8]),
   (17, 9, some 0, [0, 5, 8, 9, 11]),
   (17, 9, none, [6, 7]),
   (17, 12, some 2, [5, 8, 11]),
   (17, 12, none, [6, 7]),
   (17, 15, some 4, [0, 5, 8, 9, 11, 13]),
   (17, 15, none, [6, 7]),
   (17, 21, some 6, [0, 5, 8, 9, 11, 13]),
   (17, 21, none, [6, 7]),
   (17, 29, some 8, [18]),
   (17, 29, none, [6, 7]),
   (18, 4, some 0, []),
   (18, 4, none, [4]),
   (20, 4, some 0, [3, 12]),
   (20, 4, none, [8, 9, 10]),
   (21, 4, some 0, []),
   (21, 4, none, [4]),
   (22, 4, some 0, [2, 3, 9, 10]),
   (22, 4, none, [8]),
   (22, 7, some 2, [0, 2, 3, 9, 10, 11]),
   (22, 7, none, [8]),
   (22, 15, some 4, [14]),
   (22, 15, none, [8]),
   (22, 18, some 6, [2, 3, 9, 10, 14, 15]),
   (22, 18, none, [8]),
   (25, 4, some 0, []),
   (25, 4, none, [2]),
   (26, 4, some 0, []),
   (26, 4, none, [2]),
   (26, 12, some 2, [1, 3]),
   (26, 12, none, [2]),
   (27, 5, some 0, [2, 3, 5]),
   (27, 5, none, [4]),
   (27, 15, some 2, []),
   (27, 15, none, [4]),
   (30, 6, some 0, [2, 7, 8]),
   (30, 6, none, [6]),
   (32, 4, some 0, [1, 2]),
   (32, 4, none, [6]),
   (32, 9, some 2, []),
   (32, 9, none, [6]),
   (35, 2, some 0, [0, 1]),
   (35, 2, none, [4]),
   (39, 3, some 0, [9, 10]),
   (39, 3, none, [6, 7]),
   (40, 4, some 0, [0, 8, 9]),
   (40, 4, none, [6, 7]),
   (40, 8, some 2, []),
   (40, 8, none, [6, 7]),
   (40, 12, some 4, [0, 8, 9, 11, 12]),
   (40, 12, none, [6, 7]),
   (41, 5, some 0, []),
   (41, 5, none, [2]),
   (42, 4, some 0, [1, 2, 4, 5]),
   (42, 4, none, [2, 3]),
   (42, 9, some 2, [2]),
   (42, 9, none, [2, 3]),
   (42, 15, some 4, [1, 2, 4, 5, 7, 10]),
   (42, 15, none, [2, 3]),
   (44, 5, some 0, []),
   (44, 5, none, [4]),
   (49, 3, some 0, [5]),
   (49, 3, none, [4]),
   (50, 7, some 0, [1, 6, 7]),
   (50, 7, none, [2, 3]),
   (50, 12, some 2, [8]),
   (50, 12, none, [2, 3]),
   (51, 2, some 0, []),
   (51, 2, none, [4]),
   (53, 1, some 0, []),
   (53, 1, none, []),
   (55, 3, some 0, [5]),
   (55, 3, none, [4]),
   (57, 4, some 0, [2, 6, 7, 8]),
   (57, 4, none, [6, 7]), (57, 4, some 1000000, [6, 7]),
   (57, 9, some 2, [2, 6, 7, 8]),
   (57, 9, none, [6, 7]), (57, 9, some 1000000, [6, 7]),
   (58, 3, some 0, [6, 7]),
   (58, 3, none, [6]),
   (59, 2, some 0, [0, 1]),
   (59, 2, none, [4]),
   (68, 3, some 0, [0, 1, 6]),
   (68, 3, none, [4, 5]),
   (68, 9, some 2, [6, 8]),
   (68, 9, none, [4, 5]),
   (68, 12, some 4, [0, 1, 6, 8, 30, 31]),
   (68, 12, none, [4, 5]),
   (69, 3, some 0, []),
   (69, 3, none, [6]),
   (69, 7, some 2, [0, 2, 7, 8, 9]),
   (69, 7, none, [6]),
   (72, 5, some 0, [3, 6, 8, 9]),
   (72, 5, none, [6, 7]),
   (72, 8, some 2, [1, 3, 6, 8, 9, 10]),
   (72, 8, none, [6, 7]),
   (72, 32, some 4, [3, 6, 9]),
   (72, 32, none, [6, 7]),
   (77, 2, some 0, [0, 1, 3]),
   (77, 2, none, []),
   (77, 7, none, []),
   (77, 9, some 4, [0, 1, 3, 6]),
   (77, 9, none, []),
   (79, 3, some 0, [5]),
   (79, 3, none, [4]),
   (80, 2, some 0, []),
   (80, 2, none, [4]),
   (81, 5, some 0, [3]),
   (81, 5, none, [2]),
   (82, 3, some 0, [0, 5]),
   (82, 3, none, [4]),
   (82, 8, some 2, [5]),
   (82, 8, none, [4]),
   (82, 10, some 4, [0, 5, 7]),
   (82, 10, none, [4]),
   (88, 2, some 0, []),
   (88, 2, none, [4])]
def annOf (f : FuncId) (k : Nat) : Option (List Nat) := (annL.find? fun x => x.1 == f && x.2.1 == k).map (·.2.2)
def annXOf (f : FuncId) (k : Nat) (e : Option Nat) : Option (List Nat) := (annXL.find? fun x => x.1 == f && x.2.1 == k && x.2.2.1 == e).map (·.2.2.2)
def wrL : List (Nat × List Bool) := [(53, [true]), (56, [true]), (58, [false, false, true]), (68, [false, true]), (69, [false, false, true]), (79, [true, true]), (105, [true])]
def wrOf (f : FuncId) : List Bool := ((wrL.find? fun x => x.1 == f).map (·.2)).getD []
def fzoOf (o : Oper) : List Nat := match o.op with
  | .buildSlice t _ ps => if t = 36 || (t = 76 && o.dst == some 123) || (t = 84 && o.dst == some 82) then ps.toList.filterMap fun p => match p.2 with
    | .tmp t => some t
    | _ => none
    else []
  | .makeSlice t _ _ => if t = 25 && o.dst == some 71 then [1000056] else []
  | .call c => if c.argTypes.toList == [76] && o.dst == some 126 then [1000125] else []
  | .move _ => if o.type = 84 && o.dst == some 29 then [1000028] else []
  | _ => []
noncomputable def C : Cfg := { P := Try.prog, ty := tyOf Try.prog, wr := wrOf, ann := annOf, annX := annXOf, fuel := 2 ^ 64, frz := fun f => f == 46, give := fun f k => f == 23 && k == 7, ext := fun _ => none, alts := fun t => if t = 110 then [118, 120, 123] else [], fzo := fzoOf }
theorem own : ownKnob Try.prog.godebug = none := by kernel_rfl
theorem mixed : C.P.follows .mixedOrders = true := by kernel_rfl
def fnOk (fn : Func) : Bool := match fn.body with
  | none => true
  | some c => fn.name != "runtime.NumGoroutine" && regsOk c
theorem fnsOk : Try.prog.funcs.toList.all fnOk = true := by kernel_rfl
theorem fn_ok {f : FuncId} {fn : Func} {c : Code} (h : Try.prog.funcs[f]? = some fn) (hb : fn.body = some c) : fn.name ≠ "runtime.NumGoroutine" ∧ regsOk c = true := by
  have hm : fn ∈ Try.prog.funcs := Array.mem_of_getElem? h
  have := List.all_eq_true.1 fnsOk fn (by simpa using hm)
  unfold fnOk at this
  rw [hb] at this
  simpa using this
theorem callsOk (n : Nat) : CallOK C.P (callA C n) := by
  refine calls_ok (C := C) ?_ ?_ mixed ?_ ?_ n
  · intro t T h
    dsimp only [C] at h ⊢
    exact h
  · intro f E h
    delta C at h
    cases h
  · intro f fn h hb
    obtain ⟨c, hc⟩ := Option.isSome_iff_exists.1 hb
    exact (fn_ok h hc).1
  · exact fun f fn c h hb => (fn_ok h hb).2
def s48 : Sig := ⟨[.k (.int .i64), .k (.int .i64), .k (.int .i64)], [(.k .bool, [])]⟩
def s54 : Sig := ⟨[.k (.int .i64), .k (.int .i64), .k (.int .i64)], [(.k .bool, [])]⟩
def s74 : Sig := ⟨[.agg [.k (.int .i64), .k (.int .i64), .k (.int .i64)], .eptr [.k (.int .i64)]], [(.k .bool, [])]⟩
def s51 : Sig := ⟨[.k (.ro [.int .i64, .int .i64, .int .i64]), .fn 74 [] [.eptr [.k (.int .i64)]]], [(.k (.int .i64), [])]⟩
def l51_2 : LSig := mkLS [0, 1, 7, 8] [(19, [(0, .k (.ro [.int .i64, .int .i64, .int .i64])), (1, .fn 74 [] [.eptr [.k (.int .i64)]]), (7, .k (.int .i64)), (8, .k (.int .i64))], [])] [(.ret, [4], [(19, [(4, .k (.int .i64))], [])]), (.exit 0, [], [(19, [], [])])]
def s63 : Sig := ⟨[.k (.ro [.int .i64, .int .i64, .int .i64]), .fn 74 [] [.eptr [.k (.int .i64)]]], [(.k .bool, [])]⟩
def s47 : Sig := ⟨[.k (.int .i64), .k (.ro [.int .i64, .int .i64, .int .i64])], [(.k .bool, [])]⟩
def s18 : Sig := ⟨[.k (.int .i64), .k (.ro [.int .i64, .int .i64, .int .i64])], [(.k .bool, [])]⟩
def l18_4 : LSig := mkLS [0, 1, 5] [(45, [(0, .k (.int .i64)), (1, .k (.ro [.int .i64, .int .i64, .int .i64])), (5, .k (.int .i64))], [])] [(.ret, [4], [(45, [(4, .k .bool)], [])]), (.exit 0, [], [(45, [], [])])]
def s75 : Sig := ⟨[.k (.ro [.int .i64, .int .i64, .int .i64])], [(.sl 0 3, [.row [.int .i64, .int .i64, .int .i64]]), (.emp 3, [])]⟩
def s49 : Sig := ⟨[.k (.int .i64), .k (.ro [.int .i64, .int .i64, .int .i64])], [(.ptr 0 2 0 0, [.box [.k (.int .i64), .sl 1 3], .row [.int .i64, .int .i64, .int .i64]]), (.ptr 0 2 0 0, [.box [.k (.int .i64), .emp 3]])]⟩
def l49_3 : LSig := mkLS [5, 12, 13] [(29, [(5, .ptr 0 2 0 0), (12, .k (.int .i64)), (13, .k (.int .i64))], [.box [.k (.int .i64), .sl 1 3], .row [.int .i64, .int .i64, .int .i64]]), (29, [(5, .ptr 0 2 0 0), (12, .k (.int .i64)), (13, .k (.int .i64))], [.box [.k (.int .i64), .emp 3]])] [(.exit 0, [5], [(29, [(5, .ptr 0 2 0 0)], [.box [.k (.int .i64), .sl 1 3], .row [.int .i64, .int .i64, .int .i64]]), (29, [(5, .ptr 0 2 0 0)], [.box [.k (.int .i64), .emp 3]])])]
def s55 : Sig := ⟨[.k (.int .i64), .k (.ro [.int .i64, .int .i64, .int .i64])], [(.nils, []), (.sl 0 3, [.row [.int .i64, .int .i64, .int .i64]])]⟩
def l55_3 : LSig := mkLS [0, 5, 6] [(20, [(0, .k (.int .i64)), (5, .nils), (6, .k (.int .i64))], []), (20, [(0, .k (.int .i64)), (5, .sl 0 3), (6, .k (.int .i64))], [.row [.int .i64, .int .i64, .int .i64]])] [(.exit 0, [5], [(20, [(5, .nils)], []), (20, [(5, .sl 0 3)], [.row [.int .i64, .int .i64, .int .i64]])])]
def s53 : SigW := ⟨[.sl 0 1], [.row [.int .i64]], [(.tup [], [.row [.int .i64]])]⟩
def l53_1 : LSig := mkLS [0, 2, 3] [(28, [(0, .sl 0 1), (2, .k (.int .i64)), (3, .k (.int .i64))], [.row [.int .i64]])] [(.exit 0, [], [(28, [], [.row [.int .i64]])])]
def s68 : SigW := ⟨[.eptr [.k (.int .i64), .k (.ro [.int .i64, .int .i64, .int .i64])], .sl 0 1], [.row [.int .i64]], [(.tup [.sl 1 1, .k (.int .i64)], [.row [.int .i64], .row [.int .i64]])]⟩
def l68_3 : LSig := mkLS [0, 1, 6, 18, 19] [(76, [(0, .eptr [.k (.int .i64), .k (.ro [.int .i64, .int .i64, .int .i64])]), (1, .sl 0 1), (6, .sl 1 1), (18, .k (.int .i64)), (19, .k (.int .i64))], [.row [.int .i64], .row [.int .i64]])] [(.exit 0, [0, 1, 6], [(76, [(0, .eptr [.k (.int .i64), .k (.ro [.int .i64, .int .i64, .int .i64])]), (1, .sl 0 1), (6, .sl 1 1)], [.row [.int .i64], .row [.int .i64]])])]
def l68_9 : LSig := mkLS [0, 1, 6, 8, 30, 31] [(76, [(0, .eptr [.k (.int .i64), .k (.ro [.int .i64, .int .i64, .int .i64])]), (1, .sl 0 1), (6, .sl 1 1), (8, .k (.int .i64)), (30, .k (.int .i64)), (31, .k (.int .i64))], [.row [.int .i64], .row [.int .i64]])] [(.exit 2, [6, 8], [(76, [(6, .sl 1 1), (8, .k (.int .i64))], [.row [.int .i64], .row [.int .i64]])])]
def l68_12 : LSig := mkLS [0, 1, 6, 8, 30, 31, 36, 37, 38] [(76, [(0, .eptr [.k (.int .i64), .k (.ro [.int .i64, .int .i64, .int .i64])]), (1, .sl 0 1), (6, .sl 1 1), (8, .k (.int .i64)), (30, .k (.int .i64)), (31, .k (.int .i64)), (36, .k (.ro [.int .i64, .int .i64, .int .i64])), (37, .k (.int .i64)), (38, .k (.int .i64))], [.row [.int .i64], .row [.int .i64]])] [(.exit 4, [0, 1, 6, 8, 30, 31], [(76, [(0, .eptr [.k (.int .i64), .k (.ro [.int .i64, .int .i64, .int .i64])]), (1, .sl 0 1), (6, .sl 1 1), (8, .k (.int .i64)), (30, .k (.int .i64)), (31, .k (.int .i64))], [.row [.int .i64], .row [.int .i64]])])]
def s69 : SigW := ⟨[.k (.int .i64), .k (.ro [.int .i64, .int .i64, .int .i64]), .sl 0 1], [.row [.int .i64]], [(.k .bool, [.row [.int .i64]])]⟩
def l69_3 : LSig := mkLS [0, 2, 7, 8] [(61, [(0, .k (.int .i64)), (2, .sl 0 1), (7, .nils), (8, .k (.int .i64))], [.row [.int .i64]]), (61, [(0, .k (.int .i64)), (2, .sl 0 1), (7, .sl 1 3), (8, .k (.int .i64))], [.row [.int .i64], .row [.int .i64, .int .i64, .int .i64]])] [(.exit 0, [], [(61, [], [.row [.int .i64]])]), (.ret, [6], [(61, [(6, .k .bool)], [.row [.int .i64]])])]
def l69_7 : LSig := mkLS [0, 2, 7, 8, 9, 10] [(61, [(0, .k (.int .i64)), (2, .sl 0 1), (7, .nils), (8, .k (.int .i64)), (9, .k .bool), (10, .k (.int .i64))], [.row [.int .i64]]), (61, [(0, .k (.int .i64)), (2, .sl 0 1), (7, .sl 1 3), (8, .k (.int .i64)), (9, .k .bool), (10, .k (.int .i64))], [.row [.int .i64], .row [.int .i64, .int .i64, .int .i64]])] [(.exit 2, [0, 2, 7, 8, 9], [(61, [(0, .k (.int .i64)), (2, .sl 0 1), (7, .nils), (8, .k (.int .i64)), (9, .k .bool)], [.row [.int .i64]]), (61, [(0, .k (.int .i64)), (2, .sl 0 1), (7, .sl 1 3), (8, .k (.int .i64)), (9, .k .bool)], [.row [.int .i64], .row [.int .i64, .int .i64, .int .i64]])])]
def s36 : Sig := ⟨[.k (.int .i64), .k (.ro [.int .i64, .int .i64, .int .i64]), .k (.ro [.int .i64])], [(.tup [.nils, .k .bool], []), (.tup [.sl 0 1, .k .bool], [.row [.int .i64]])]⟩
def s19 : Sig := ⟨[.k (.int .i64), .k (.ro [.int .i64, .int .i64, .int .i64])], [(.tup [.nils, .k .bool], []), (.tup [.sl 0 1, .k .bool], [.row [.int .i64]])]⟩
def s76 : Sig := ⟨[.k (.int .i64), .eptr [.k (.ro [.int .i64])], .eptr [.eptr [.k (.int .i64), .k (.ro [.int .i64, .int .i64, .int .i64])]]], [(.k (.int .i64), [])]⟩
def s50 : Sig := ⟨[.eptr [.k (.int .i64), .k (.ro [.int .i64, .int .i64, .int .i64])]], [(.tup [.sl 0 1, .nils], [.row [.int .i64]]), (.tup [.nils, .nils], []), (.tup [.nils, .sl 0 1], [.row [.int .i64]])]⟩
def l50_7 : LSig := mkLS [1, 6, 7, 29, 30] [(71, [(1, .ptr 0 1 0 0), (6, .k (.int .i64)), (7, .fn 76 [] [.ptr 1 1 0 0, .ptr 0 1 0 0]), (29, .k (.int .i64)), (30, .k (.int .i64))], [.box [.eptr [.k (.int .i64), .k (.ro [.int .i64, .int .i64, .int .i64])]], .box [.sl 2 1], .row [.int .i64]])] [(.exit 0, [1, 6, 7], [(71, [(1, .ptr 0 1 0 0), (6, .k (.int .i64)), (7, .fn 76 [] [.ptr 1 1 0 0, .ptr 0 1 0 0])], [.box [.eptr [.k (.int .i64), .k (.ro [.int .i64, .int .i64, .int .i64])]], .box [.sl 2 1], .row [.int .i64]])])]
def l50_12 : LSig := mkLS [1, 6, 7, 8, 9] [(71, [(1, .ptr 0 1 0 0), (6, .k (.int .i64)), (7, .fn 76 [] [.ptr 1 1 0 0, .ptr 0 1 0 0]), (8, .nils), (9, .k (.int .i64))], [.box [.eptr [.k (.int .i64), .k (.ro [.int .i64, .int .i64, .int .i64])]], .box [.sl 2 1], .row [.int .i64]]), (71, [(1, .ptr 0 1 0 0), (6, .k (.int .i64)), (7, .fn 76 [] [.ptr 1 1 0 0, .ptr 0 1 0 0]), (8, .sl 2 1), (9, .k (.int .i64))], [.box [.eptr [.k (.int .i64), .k (.ro [.int .i64, .int .i64, .int .i64])]], .box [.sl 3 1], .row [.int .i64], .row [.int .i64]])] [(.exit 2, [8], [(71, [(8, .nils)], []), (71, [(8, .sl 0 1)], [.row [.int .i64]])])]
def s20 : Sig := ⟨[.k (.int .i64), .k (.ro [.int .i64, .int .i64, .int .i64]), .k (.ro [.int .i64]), .k (.int .i64)], [(.tup [.k (.int .i64), .k (.int .i64), .k .bool], [])]⟩
def l20_4 : LSig := mkLS [2, 3, 11, 12, 13] [(64, [(2, .k (.ro [.int .i64])), (3, .k (.int .i64)), (11, .nils), (12, .k (.int .i64)), (13, .k (.int .i64))], []), (64, [(2, .k (.ro [.int .i64])), (3, .k (.int .i64)), (11, .sl 0 3), (12, .k (.int .i64)), (13, .k (.int .i64))], [.row [.int .i64, .int .i64, .int .i64]])] [(.ret, [8, 9, 10], [(64, [(8, .k (.int .i64)), (9, .k (.int .i64)), (10, .k .bool)], [])]), (.exit 0, [3, 12], [(64, [(3, .k (.int .i64)), (12, .k (.int .i64))], [])])]
def s21 : Sig := ⟨[.k (.ro [.int .i64]), .k (.ro [.int .i64])], [(.k .bool, [])]⟩
def l21_4 : LSig := mkLS [0, 1, 5] [(26, [(0, .k (.ro [.int .i64])), (1, .k (.ro [.int .i64])), (5, .k (.int .i64))], [])] [(.ret, [4], [(26, [(4, .k .bool)], [])]), (.exit 0, [], [(26, [], [])])]
def s15 : Sig := ⟨[.k (.int .i64), .k (.ro [.int .i64, .int .i64, .int .i64])], [(.k .bool, [])]⟩
noncomputable section
def lkF (l : List (List D)) (i : Nat) : Int := ix (l.getD i []) 0
def lkT (l : List (List D)) (i : Nat) : Int := ix (l.getD i []) 1
def lkW (l : List (List D)) (i : Nat) : Int := ix (l.getD i []) 2
def linkP (n f t w : Int) : Bool := Lite.within f 0 (n - 1) && Lite.within t 0 (n - 1) && Lite.within w (-1000000) 1000000
def linkOk (n : Int) (l : List (List D)) (i : Nat) : Bool := linkP n (lkF l i) (lkT l i) (lkW l i)
def netOk (n : Int) (l : List (List D)) : Bool := Lite.within n 1 500 && decide (l.length ≤ 5000) && allFrom (linkOk n l) 0 l.length
def G48 (ds : List D) : T (List D) := match ds with
  | [n, a, b] => .leaf [.b (Lite.within n.I a.I b.I)]
  | _ => .fail
def G54 (ds : List D) : T (List D) := match ds with
  | [n, a, b] => .leaf [.b (Lite.within n.I a.I b.I)]
  | _ => .fail
def G74 (ds : List D) : T (List D) := match ds with
  | [f, t, w, n] => .need (yes (1 ≤ n.I ∧ n.I ≤ 500)) (.leaf [.b (!linkP n.I f.I t.I w.I)])
  | _ => .fail
def G51 (ds : List D) : T (List D) := match ds with
  | [l, n] => .need (yes (1 ≤ n.I ∧ n.I ≤ 500 ∧ l.L.length < big)) (.leaf [.i (firstFrom (fun j => !linkOk n.I l.L j) 0 l.L.length)])
  | _ => .fail
def G51_2 (ds : List D) : T (Ex × List D) := match ds with
  | [l, n, m, i] => .need (yes (1 ≤ n.I ∧ n.I ≤ 500 ∧ l.L.length < big ∧ m.I = l.L.length ∧ 0 ≤ i.I ∧ i.I ≤ l.L.length))
      (.ite (decide (firstFrom (fun j => !linkOk n.I l.L j) i.I.toNat (l.L.length - i.I.toNat) ≥ 0)) (.leaf (.ret, [.i (firstFrom (fun j => !linkOk n.I l.L j) i.I.toNat (l.L.length - i.I.toNat))])) (.leaf (.exit 0, [])))
  | _ => .fail
def G63 (ds : List D) : T (List D) := match ds with
  | [l, n] => .need (yes (1 ≤ n.I ∧ n.I ≤ 500 ∧ l.L.length < big)) (.leaf [.b (!allFrom (linkOk n.I l.L) 0 l.L.length)])
  | _ => .fail
def G47 (ds : List D) : T (List D) := match ds with
  | [n, l] => .need (yes (l.L.length < big)) (.leaf [.b (netOk n.I l.L)])
  | _ => .fail
def G18 (ds : List D) : T (List D) := match ds with
  | [n, l] => .need (yes (l.L.length < big)) (.leaf [.b (netOk n.I l.L)])
  | _ => .fail
def G18_4 (ds : List D) : T (Ex × List D) := match ds with
  | [n, l, i] => .need (yes (1 ≤ n.I ∧ n.I ≤ 500 ∧ l.L.length < big ∧ 0 ≤ i.I ∧ i.I ≤ l.L.length))
      (.ite (allFrom (linkOk n.I l.L) i.I.toNat (l.L.length - i.I.toNat)) (.leaf (.exit 0, [])) (.leaf (.ret, [.b false])))
  | _ => .fail
end
noncomputable section
def rg (R : List (List D)) (j : Nat) : Int := ix (R.getD j []) 0
def rs (R : List (List D)) (j : Nat) (v : Int) : List (List D) := R.set j [.i v]
def bndR (R : List (List D)) (M : Int) : Prop := ∀ j, -M ≤ rg R j ∧ rg R j ≤ M
def extraF : Nat → Nat → List (List D)
  | _, 0 => []
  | i, k + 1 => [.i 0, .i (i : Int), .i 0] :: extraF (i + 1) k
def allL (n : Int) (l : List (List D)) : List (List D) := l ++ extraF 0 n.toNat
def netP (n : Int) (l : List (List D)) : Prop := netOk n l = true
def goodL (n : Int) (l : List (List D)) : Prop := 1 ≤ n ∧ n ≤ 500 ∧ l.length ≤ 5500 ∧ ∀ i, i < l.length → (0 ≤ lkF l i ∧ lkF l i < n) ∧ (0 ≤ lkT l i ∧ lkT l i < n) ∧ (-1000000 ≤ lkW l i ∧ lkW l i ≤ 1000000)
abbrev RSt := List (List D) × List (List D) × Int
def stepR (l : List (List D)) (i : Nat) (s : RSt) : RSt :=
  if rg s.1 (lkF l i).toNat + lkW l i > rg s.1 (lkT l i).toNat then (rs s.1 (lkT l i).toNat (rg s.1 (lkF l i).toNat + lkW l i), rs s.2.1 (lkT l i).toNat i, lkT l i) else s
def passR (l : List (List D)) : Nat → Nat → RSt → RSt
  | _, 0, s => s
  | i, k + 1, s => passR l (i + 1) k (stepR l i s)
def roundsR (l : List (List D)) : Nat → RSt → RSt
  | 0, s => s
  | k + 1, s => if (passR l 0 l.length (s.1, s.2.1, -1)).2.2 < 0 then passR l 0 l.length (s.1, s.2.1, -1) else roundsR l k (passR l 0 l.length (s.1, s.2.1, -1))
def pushR (n : Int) (l t : List (List D)) : RSt := roundsR l (n.toNat + 1) (t, List.replicate n.toNat [.i (-1)], -1)
def revR : Nat → Nat → List (List D) → List (List D)
  | _, 0, r => r
  | i, k + 1, r => if (i : Int) < r.length - 1 - i then revR (i + 1) k (rs (rs r i (rg r (r.length - 1 - i))) (r.length - 1 - i) (rg r i)) else r
def G49 (ds : List D) : T (List D) := match ds with
  | [n, l] => .need (yes (netP n.I l.L)) (.leaf [.i 0, .i n.I, .i (allL n.I l.L).length, .l (allL n.I l.L)])
  | _ => .fail
def G49_3 (ds : List D) : T (Ex × List D) := match ds with
  | [j, k, i, n, m, r] => .need (yes (j.I = 0 ∧ 0 ≤ i.I ∧ i.I ≤ k.I ∧ k.I ≤ 500 ∧ m.I = r.L.length ∧ r.L.length + (k.I - i.I) ≤ 5500))
      (.leaf (.exit 0, [.i 0, .i n.I, .i (r.L ++ extraF i.I.toNat (k.I - i.I).toNat).length, .l (r.L ++ extraF i.I.toNat (k.I - i.I).toNat)]))
  | [j, k, i, n] => .need (yes (j.I = 1 ∧ i.I = 0 ∧ 1 ≤ k.I ∧ k.I ≤ 500)) (.leaf (.exit 0, [.i 0, .i n.I, .i (extraF 0 k.I.toNat).length, .l (extraF 0 k.I.toNat)]))
  | _ => .fail
def G55 (ds : List D) : T (List D) := match ds with
  | [n, l] => .need (yes (netP n.I l.L)) (.leaf [.i 1, .i (allL n.I l.L).length, .l (allL n.I l.L)])
  | _ => .fail
def G55_3 (ds : List D) : T (Ex × List D) := match ds with
  | [j, n, m, i, r] => .need (yes (j.I = 1 ∧ 0 ≤ i.I ∧ i.I ≤ n.I ∧ n.I ≤ 500 ∧ m.I = r.L.length ∧ r.L.length + (n.I - i.I) ≤ 5500))
      (.leaf (.exit 0, [.i 1, .i (r.L ++ extraF i.I.toNat (n.I - i.I).toNat).length, .l (r.L ++ extraF i.I.toNat (n.I - i.I).toNat)]))
  | [j, n, i] => .need (yes (j.I = 0 ∧ i.I = 0 ∧ 1 ≤ n.I ∧ n.I ≤ 500)) (.leaf (.exit 0, [.i 1, .i (extraF 0 n.I.toNat).length, .l (extraF 0 n.I.toNat)]))
  | _ => .fail
def G53 (ds : List D) : T (List D) := match ds with
  | [m, r] => .need (yes (m.I = r.L.length ∧ r.L.length ≤ 1000000)) (.leaf [.l (revR 0 r.L.length r.L)])
  | _ => .fail
def G53_1 (ds : List D) : T (Ex × List D) := match ds with
  | [m, i, j, r] => .need (yes (m.I = r.L.length ∧ r.L.length ≤ 1000000 ∧ 0 ≤ i.I ∧ i.I ≤ r.L.length ∧ j.I = r.L.length - 1 - i.I)) (.leaf (.exit 0, [.l (revR i.I.toNat (r.L.length - i.I.toNat) r.L)]))
  | _ => .fail
def G68 (ds : List D) : T (List D) := match ds with
  | [n, l, m, t] => .need (yes (goodL n.I l.L ∧ m.I = n.I ∧ (t.L.length : Int) = n.I ∧ bndR t.L 1099511627776))
      (.leaf [.i n.I, .i (pushR n.I l.L t.L).2.2, .l (pushR n.I l.L t.L).1, .l (pushR n.I l.L t.L).2.1])
  | _ => .fail
def G68_3 (ds : List D) : T (Ex × List D) := match ds with
  | [n, l, m, q, k, i, t, b] => .need (yes (1 ≤ n.I ∧ n.I ≤ 500 ∧ m.I = n.I ∧ q.I = n.I ∧ k.I = n.I ∧ 0 ≤ i.I ∧ i.I ≤ n.I ∧ b.L = List.replicate i.I.toNat [.i (-1)] ++ List.replicate (n.I - i.I).toNat [.i 0]))
      (.leaf (.exit 0, [.i n.I, .l l.L, .i n.I, .i n.I, .l t.L, .l (List.replicate n.I.toNat [.i (-1)])]))
  | _ => .fail
def room (t : List (List D)) (k : Int) : Prop := ∃ M : Int, bndR t M ∧ M + 1000000 * k ≤ 4611686018427387904
def G68_9 (ds : List D) : T (Ex × List D) := match ds with
  | [n, l, m, q, r, k, i, t, b] => .need (yes (goodL n.I l.L ∧ m.I = n.I ∧ q.I = n.I ∧ k.I = n.I + 1 ∧ 0 ≤ i.I ∧ i.I ≤ n.I + 1 ∧ (t.L.length : Int) = n.I ∧ (b.L.length : Int) = n.I ∧ room t.L (l.L.length * (n.I + 1 - i.I))))
      (.leaf (.exit 2, [.i n.I, .i (roundsR l.L (n.I + 1 - i.I).toNat (t.L, b.L, r.I)).2.2, .l (roundsR l.L (n.I + 1 - i.I).toNat (t.L, b.L, r.I)).1, .l (roundsR l.L (n.I + 1 - i.I).toNat (t.L, b.L, r.I)).2.1]))
  | _ => .fail
def G68_12 (ds : List D) : T (Ex × List D) := match ds with
  | [n, l, m, q, r, k, i, l', k', i', t, b] => .need (yes (goodL n.I l.L ∧ m.I = n.I ∧ q.I = n.I ∧ l'.L = l.L ∧ k'.I = l.L.length ∧ 0 ≤ i'.I ∧ i'.I ≤ l.L.length ∧ (t.L.length : Int) = n.I ∧ (b.L.length : Int) = n.I ∧ room t.L (l.L.length - i'.I)))
      (.leaf (.exit 4, [.i n.I, .l l.L, .i n.I, .i n.I, .i (passR l.L i'.I.toNat (l.L.length - i'.I.toNat) (t.L, b.L, r.I)).2.2, .i k.I, .i i.I, .l (passR l.L i'.I.toNat (l.L.length - i'.I.toNat) (t.L, b.L, r.I)).1, .l (passR l.L i'.I.toNat (l.L.length - i'.I.toNat) (t.L, b.L, r.I)).2.1]))
  | _ => .fail
end
noncomputable section
def refR (n : Int) (l t : List (List D)) : RSt := roundsR (allL n l) (n.toNat + 1) (t, [], 0)
def refOk (n : Int) (l t : List (List D)) : Bool := decide ((refR n l t).2.2 < 0) && (rg (refR n l t).1 0 == 0)
def zeros (n : Int) : List (List D) := List.replicate n.toNat [.i 0]
def backI (n : Int) (l b : List (List D)) (v : Int) : Int := if rg b v.toNat < 0 then (l.length : Int) - n + v else rg b v.toNat
def predI (n : Int) (l b : List (List D)) (v : Int) : Int := lkF l (backI n l b v).toNat
def walk (n : Int) (l b : List (List D)) : Nat → Int → Int
  | 0, v => v
  | k + 1, v => walk n l b k (predI n l b v)
def backOk (n : Int) (l b : List (List D)) : Prop := goodL n l ∧ (b.length : Int) = n ∧ n ≤ l.length ∧ ∀ j : Nat, (j : Int) < n → -1 ≤ rg b j ∧ rg b j < l.length
def stepsTo (n : Int) (l b : List (List D)) (v e : Int) : Nat → Nat → Nat
  | k, 0 => k
  | k, f + 1 => if v = e then k else stepsTo n l b (predI n l b v) e (k + 1) f
def dist (n : Int) (l b : List (List D)) (v e : Int) : Nat := stepsTo n l b v e 0 501
def chainF (n : Int) (l b : List (List D)) : Nat → Int → List (List D)
  | 0, _ => []
  | k + 1, v => [.i (backI n l b v)] :: chainF n l b k (predI n l b v)
def circle (n : Int) (l b : List (List D)) (v : Int) : List (List D) := [.i (backI n l b v)] :: chainF n l b (dist n l b (predI n l b v) v) (predI n l b v)
def proofR (n : Int) (l : List (List D)) : List (List D) :=
  let s := pushR n l (zeros n)
  let c := circle n l s.2.1 (walk n l s.2.1 (n.toNat + 1) s.2.2)
  revR 0 c.length c
def reaches (n : Int) (l b : List (List D)) (v e : Int) : Prop := ∃ k : Nat, k ≤ 500 ∧ walk n l b k v = e
def G69 (ds : List D) : T (List D) := match ds with
  | [n, l, m, t] => .need (yes (netP n.I l.L ∧ m.I = n.I ∧ (t.L.length : Int) = n.I ∧ bndR t.L 1099511627776)) (.leaf [.b (refOk n.I l.L t.L), .l (refR n.I l.L t.L).1])
  | _ => .fail
def G69_3 (ds : List D) : T (Ex × List D) := match ds with
  | [j, n, m, q, i, t, a] => .need (yes (j.I = 1 ∧ goodL n.I a.L ∧ m.I = n.I ∧ q.I = a.L.length ∧ 0 ≤ i.I ∧ i.I ≤ n.I + 1 ∧ (t.L.length : Int) = n.I ∧ room t.L (a.L.length * (n.I + 1 - i.I))))
      (.ite (decide ((roundsR a.L (n.I + 1 - i.I).toNat (t.L, [], 0)).2.2 < 0)) (.leaf (.ret, [.b (rg (roundsR a.L (n.I + 1 - i.I).toNat (t.L, [], 0)).1 0 == 0), .l (roundsR a.L (n.I + 1 - i.I).toNat (t.L, [], 0)).1]))
        (.leaf (.exit 0, [.l (roundsR a.L (n.I + 1 - i.I).toNat (t.L, [], 0)).1])))
  | _ => .fail
def G69_7 (ds : List D) : T (Ex × List D) := match ds with
  | [j, n, m, q, r, s, i, t, a] => .need (yes (j.I = 1 ∧ goodL n.I a.L ∧ m.I = n.I ∧ q.I = a.L.length ∧ 0 ≤ i.I ∧ i.I ≤ a.L.length ∧ (t.L.length : Int) = n.I ∧ room t.L (a.L.length - i.I)))
      (.leaf (.exit 2, [.i 1, .i n.I, .i n.I, .i a.L.length, .i r.I, .b (s.B && decide ((passR a.L i.I.toNat (a.L.length - i.I.toNat) (t.L, [], -1)).2.2 < 0)), .l (passR a.L i.I.toNat (a.L.length - i.I.toNat) (t.L, [], -1)).1, .l a.L]))
  | _ => .fail
def G36 (ds : List D) : T (List D) := match ds with
  | [n, l, t] => .need (yes (netP n.I l.L ∧ (t.L.length : Int) = n.I ∧ bndR t.L 1099511627776)) (.leaf [.i 1, .i n.I, .b (refOk n.I l.L t.L), .l (refR n.I l.L t.L).1])
  | _ => .fail
def G19 (ds : List D) : T (List D) := match ds with
  | [n, l] => .need (yes (netP n.I l.L)) (.leaf [.i 1, .i n.I, .b (refOk n.I l.L (zeros n.I)), .l (refR n.I l.L (zeros n.I)).1])
  | _ => .fail
def G76 (ds : List D) : T (List D) := match ds with
  | [v, b, n, l] => .need (yes (backOk n.I l.L b.L ∧ 0 ≤ v.I ∧ v.I < n.I)) (.leaf [.i (backI n.I l.L b.L v.I)])
  | _ => .fail
def G50 (ds : List D) : T (List D) := match ds with
  | [n, l] => .need (yes (goodL n.I l.L ∧ n.I ≤ l.L.length))
      (.ite (decide ((pushR n.I l.L (zeros n.I)).2.2 < 0)) (.leaf [.i 0, .i n.I, .l (pushR n.I l.L (zeros n.I)).1]) (.leaf [.i 2, .i (proofR n.I l.L).length, .l (proofR n.I l.L)]))
  | _ => .fail
def G50_7 (ds : List D) : T (Ex × List D) := match ds with
  | [v, k, i, n, l, q, b] => .need (yes (backOk n.I l.L b.L ∧ q.I = n.I ∧ 0 ≤ v.I ∧ v.I < n.I ∧ 0 ≤ i.I ∧ i.I ≤ k.I ∧ k.I ≤ 501)) (.leaf (.exit 0, [.i (walk n.I l.L b.L (k.I - i.I).toNat v.I), .i n.I, .l l.L, .i n.I, .l b.L]))
  | _ => .fail
def G50_12 (ds : List D) : T (Ex × List D) := match ds with
  | [j, v, m, e, n, l, q, p, b] => .need (yes (j.I = 1 ∧ backOk n.I l.L b.L ∧ q.I = n.I ∧ 0 ≤ v.I ∧ v.I < n.I ∧ m.I = p.L.length ∧ 0 < p.L.length ∧ p.L.length + dist n.I l.L b.L v.I e.I ≤ 100000 ∧ reaches n.I l.L b.L v.I e.I))
      (.leaf (.exit 2, [.i 1, .i (p.L ++ chainF n.I l.L b.L (dist n.I l.L b.L v.I e.I) v.I).length, .l (p.L ++ chainF n.I l.L b.L (dist n.I l.L b.L v.I e.I) v.I)]))
  | [j, v, e, n, l, q, b] => .need (yes (j.I = 0 ∧ backOk n.I l.L b.L ∧ q.I = n.I ∧ 0 ≤ v.I ∧ v.I < n.I ∧ e.I = v.I ∧ reaches n.I l.L b.L (predI n.I l.L b.L v.I) v.I))
      (.leaf (.exit 2, [.i 1, .i (circle n.I l.L b.L v.I).length, .l (circle n.I l.L b.L v.I)]))
  | _ => .fail
end
noncomputable section
def weighF (a c : List (List D)) : Nat → Nat → Int → Int → Bool × Int × Int
  | _, 0, s, v => (true, s, v)
  | i, k + 1, s, v => if (0 ≤ rg c i ∧ rg c i ≤ (a.length : Int) - 1) ∧ lkF a (rg c i).toNat = v then weighF a c (i + 1) k (s + lkW a (rg c i).toNat) (lkT a (rg c i).toNat) else (false, 0, 0)
def sameR (a b : List (List D)) : Bool := decide (a.length = b.length) && allFrom (fun j => rg a j == rg b j) 0 a.length
def fewB (n : Int) (l : List (List D)) : Bool := (decide (n ≤ 12) || decide (n > 500)) && (decide ((l.length : Int) ≤ 30) || (decide ((l.length : Int) > 5000) && decide ((l.length : Int) < 5200)))
def G16 (ds : List D) : T (List D) := match ds with
  | [] => .leaf [.b true]
  | _ => .fail
def G15 (ds : List D) : T (List D) := match ds with
  | [n, l] => .leaf [.b (fewB n.I l.L)]
  | _ => .fail
def G20 (ds : List D) : T (List D) := match ds with
  | [n, l, c, v] => .need (yes (netP n.I l.L ∧ c.L.length ≤ 1000000)) (.leaf [.i (weighF (allL n.I l.L) c.L 0 c.L.length 0 v.I).2.1, .i (weighF (allL n.I l.L) c.L 0 c.L.length 0 v.I).2.2, .b (weighF (allL n.I l.L) c.L 0 c.L.length 0 v.I).1])
  | _ => .fail
def G20_4 (ds : List D) : T (Ex × List D) := match ds with
  | [j, c, v, m, s, i, a] => .need (yes (j.I = 1 ∧ (∃ n, goodL n a.L) ∧ m.I = a.L.length ∧ c.L.length ≤ 1000000 ∧ 0 ≤ i.I ∧ i.I ≤ c.L.length ∧ -1000000 * i.I ≤ s.I ∧ s.I ≤ 1000000 * i.I))
      (.ite (weighF a.L c.L i.I.toNat (c.L.length - i.I.toNat) s.I v.I).1 (.leaf (.exit 0, [.i (weighF a.L c.L i.I.toNat (c.L.length - i.I.toNat) s.I v.I).2.2, .i (weighF a.L c.L i.I.toNat (c.L.length - i.I.toNat) s.I v.I).2.1])) (.leaf (.ret, [.i 0, .i 0, .b false])))
  | _ => .fail
def G21 (ds : List D) : T (List D) := match ds with
  | [a, b] => .need (yes (a.L.length < big)) (.leaf [.b (sameR a.L b.L)])
  | _ => .fail
def G21_4 (ds : List D) : T (Ex × List D) := match ds with
  | [a, b, i] => .need (yes (a.L.length < big ∧ a.L.length = b.L.length ∧ 0 ≤ i.I ∧ i.I ≤ a.L.length)) (.ite (allFrom (fun j => rg a.L j == rg b.L j) i.I.toNat (a.L.length - i.I.toNat)) (.leaf (.exit 0, [])) (.leaf (.ret, [.b false])))
  | _ => .fail
end
def s17 : Sig := ⟨[.k (.int .i64), .k (.ro [.int .i64, .int .i64, .int .i64]), .k (.int .i64)], [(.tup [.nils, .k (.int .i64)], []), (.tup [.sl 0 1, .k (.int .i64)], [.row [.int .i64]])]⟩
def l17_9 : LSig := mkLS [0, 5, 8, 9, 11, 12] [(162, [(0, .k (.int .i64)), (5, .ptr 0 1 0 0), (8, .ptr 1 2 0 0), (9, .sl 2 1), (11, .ptr 3 1 0 0), (12, .k (.int .i64))], [.box [.k (.int .i64)], .box [.k (.int .i64), .sl 4 3], .row [.int .i64], .box [.sl 5 1], .row [.int .i64, .int .i64, .int .i64], .lst 1 [[.sl 6 1]], .row [.int .i64]]), (162, [(0, .k (.int .i64)), (5, .ptr 0 1 0 0), (8, .ptr 1 2 0 0), (9, .sl 2 1), (11, .ptr 3 1 0 0), (12, .k (.int .i64))], [.box [.k (.int .i64)], .box [.k (.int .i64), .emp 3], .row [.int .i64], .box [.sl 4 1], .lst 1 [[.sl 5 1]], .row [.int .i64]])] [(.exit 0, [0, 5, 8, 9, 11], [(162, [(0, .k (.int .i64)), (5, .ptr 0 1 0 0), (8, .ptr 1 2 0 0), (9, .sl 2 1), (11, .ptr 3 1 0 0)], [.box [.k (.int .i64)], .box [.k (.int .i64), .sl 4 3], .row [.int .i64], .box [.sl 5 1], .row [.int .i64, .int .i64, .int .i64], .lst 1 [[.sl 6 1]], .row [.int .i64]])])]
def l17_12 : LSig := mkLS [0, 5, 8, 9, 11] [(162, [(0, .k (.int .i64)), (5, .ptr 0 1 0 0), (8, .ptr 1 2 0 0), (9, .sl 2 1), (11, .ptr 3 1 0 0)], [.box [.k (.int .i64)], .box [.k (.int .i64), .sl 4 3], .row [.int .i64], .box [.sl 5 1], .row [.int .i64, .int .i64, .int .i64], .lst 1 [[.sl 6 1]], .row [.int .i64]]), (162, [(0, .k (.int .i64)), (5, .ptr 0 1 0 0), (8, .ptr 1 2 0 0), (9, .sl 2 1), (11, .ptr 3 1 0 0)], [.box [.k (.int .i64)], .box [.k (.int .i64), .sl 4 3], .row [.int .i64], .box [.sl 5 1], .row [.int .i64, .int .i64, .int .i64], .row [.ro [.int .i64]]])] [(.exit 2, [5, 8, 11], [(162, [(5, .ptr 0 1 0 0), (8, .ptr 1 2 0 0), (11, .ptr 2 1 0 0)], [.box [.k (.int .i64)], .box [.k (.int .i64), .sl 3 3], .box [.sl 4 1], .row [.int .i64, .int .i64, .int .i64], .lst 1 [[.sl 5 1]], .row [.int .i64]]), (162, [(5, .ptr 0 1 0 0), (8, .ptr 1 2 0 0), (11, .ptr 2 1 0 0)], [.box [.k (.int .i64)], .box [.k (.int .i64), .sl 3 3], .box [.sl 4 1], .row [.int .i64, .int .i64, .int .i64], .row [.ro [.int .i64]]])])]
def l17_15 : LSig := mkLS [0, 5, 8, 9, 11, 13, 73, 74] [(162, [(0, .k (.int .i64)), (5, .ptr 0 1 0 0), (8, .ptr 1 2 0 0), (9, .sl 2 1), (11, .ptr 3 1 0 0), (13, .sl 4 1), (73, .k (.int .i64)), (74, .k (.int .i64))], [.box [.k (.int .i64)], .box [.k (.int .i64), .sl 5 3], .row [.int .i64], .box [.sl 6 1], .row [.int .i64], .row [.int .i64, .int .i64, .int .i64], .row [.ro [.int .i64]]])] [(.exit 4, [0, 5, 8, 9, 11, 13], [(162, [(0, .k (.int .i64)), (5, .ptr 0 1 0 0), (8, .ptr 1 2 0 0), (9, .sl 2 1), (11, .ptr 3 1 0 0), (13, .sl 4 1)], [.box [.k (.int .i64)], .box [.k (.int .i64), .sl 5 3], .row [.int .i64], .box [.sl 6 1], .row [.int .i64], .row [.int .i64, .int .i64, .int .i64], .row [.ro [.int .i64]]])])]
def l17_21 : LSig := mkLS [0, 5, 8, 9, 11, 13, 15, 90, 91, 92] [(162, [(0, .k (.int .i64)), (5, .ptr 0 1 0 0), (8, .ptr 1 2 0 0), (9, .sl 2 1), (11, .ptr 3 1 0 0), (13, .sl 4 1), (15, .k (.ro [.int .i64])), (90, .sl 5 3), (91, .k (.int .i64)), (92, .k (.int .i64))], [.box [.k (.int .i64)], .box [.k (.int .i64), .sl 5 3], .row [.int .i64], .box [.sl 6 1], .row [.int .i64], .row [.int .i64, .int .i64, .int .i64], .row [.ro [.int .i64]]])] [(.exit 6, [0, 5, 8, 9, 11, 13], [(162, [(0, .k (.int .i64)), (5, .ptr 0 1 0 0), (8, .ptr 1 2 0 0), (9, .sl 2 1), (11, .ptr 3 1 0 0), (13, .sl 4 1)], [.box [.k (.int .i64)], .box [.k (.int .i64), .sl 5 3], .row [.int .i64], .box [.sl 6 1], .row [.int .i64], .row [.int .i64, .int .i64, .int .i64], .row [.ro [.int .i64]]])])]
def l17_29 : LSig := mkLS [5, 8, 11, 18, 19] [(162, [(5, .ptr 0 1 0 0), (8, .ptr 1 2 0 0), (11, .ptr 2 1 0 0), (18, .nils), (19, .ptr 3 1 0 0)], [.box [.k (.int .i64)], .box [.k (.int .i64), .sl 4 3], .box [.sl 5 1], .box [.k (.int .i64)], .row [.int .i64, .int .i64, .int .i64], .row [.ro [.int .i64]]]), (162, [(5, .ptr 0 1 0 0), (8, .ptr 1 2 0 0), (11, .ptr 2 1 0 0), (18, .sl 3 1), (19, .ptr 4 1 0 0)], [.box [.k (.int .i64)], .box [.k (.int .i64), .sl 5 3], .box [.sl 6 1], .row [.int .i64], .box [.k (.int .i64)], .row [.int .i64, .int .i64, .int .i64], .row [.ro [.int .i64]]])] [(.exit 8, [18], [(162, [(18, .nils)], []), (162, [(18, .sl 0 1)], [.row [.int .i64]])])]
def s1053 : SigW := ⟨[.nils], [], [(.tup [], [])]⟩
def s52 : Sig := ⟨[.agg [.k (.int .i64), .k (.int .i64), .k (.int .i64)], .eptr [.k (.int .i64)], .eptr [.k (.ro [.ro [.int .i64]])], .eptr [.k (.int .i64)], .eptr [.k (.int .i64)]], [(.k .bool, [])]⟩
def s3051 : Sig := ⟨[.k (.ro [.int .i64, .int .i64, .int .i64]), .fn 52 [] [.eptr [.k (.int .i64)], .eptr [.k (.ro [.ro [.int .i64]])], .eptr [.k (.int .i64)], .eptr [.k (.int .i64)]]], [(.k (.int .i64), [])]⟩
def l3051_2 : LSig := mkLS [0, 1, 7, 8] [(19, [(0, .k (.ro [.int .i64, .int .i64, .int .i64])), (1, .fn 52 [] [.eptr [.k (.int .i64)], .eptr [.k (.ro [.ro [.int .i64]])], .eptr [.k (.int .i64)], .eptr [.k (.int .i64)]]), (7, .k (.int .i64)), (8, .k (.int .i64))], [])] [(.ret, [4], [(19, [(4, .k (.int .i64))], [])]), (.exit 0, [], [(19, [], [])])]
set_option maxRecDepth 100000
theorem hC : ∀ t Y, C.ty t = some Y → tyOf C.P t = some Y := by
  intro t Y h
  dsimp only [C] at h ⊢
  exact h
theorem fuelC : C.fuel = 18446744073709551616 := by kernel_rfl
theorem big_eq : big = 4611686018427387904 := rfl
theorem max_if (a b : Int) : (if b > a then b else a) = max a b := by
  rw [Int.max_def]
  by_cases h : b > a
  · rw [if_pos h, if_pos (by omega)]
  · rw [if_neg h]
    by_cases h2 : a ≤ b
    · rw [if_pos h2]; omega
    · rw [if_neg h2]
section
variable {α : Type} {p : Nat → Bool} {i len : Nat} {rt rf r : α}
theorem all_step (h : (T.ite (allFrom p i (len - i)) (.leaf rt) (.leaf rf)).run = some r) (hlt : i < len) : (p i = false → some rf = some r) ∧ (p i = true → (T.ite (allFrom p (i + 1) (len - (i + 1))) (.leaf rt) (.leaf rf)).run = some r) := by
  rw [show len - i = (len - (i + 1)) + 1 by omega] at h
  simp only [allFrom] at h
  refine ⟨fun hp => ?_, fun hp => ?_⟩
  · rw [hp, Bool.false_and] at h; exact h
  · rw [hp, Bool.true_and] at h; exact h
theorem all_end (h : (T.ite (allFrom p i (len - i)) (.leaf rt) (.leaf rf)).run = some r) (hge : ¬ i < len) : some rt = some r := by
  rw [show len - i = 0 by omega] at h
  exact h
end
section
variable {p : Nat → Bool} {i len : Nat} {ro r : Ex × List D}
theorem first_step (h : (T.ite (decide (firstFrom p i (len - i) ≥ 0)) (.leaf (.ret, [.i (firstFrom p i (len - i))])) (.leaf ro)).run = some r) (hlt : i < len) :
    (p i = true → some (Ex.ret, [D.i (i : Int)]) = some r) ∧ (p i = false → (T.ite (decide (firstFrom p (i + 1) (len - (i + 1)) ≥ 0)) (.leaf (.ret, [.i (firstFrom p (i + 1) (len - (i + 1)))])) (.leaf ro)).run = some r) := by
  rw [show len - i = (len - (i + 1)) + 1 by omega] at h
  simp only [firstFrom] at h
  refine ⟨fun hp => ?_, fun hp => ?_⟩
  · simp only [hp, if_true, run_ite, run_leaf] at h
    rw [if_pos (by simp)] at h
    exact h
  · simp only [hp, Bool.false_eq_true, if_false] at h
    exact h
theorem first_end (h : (T.ite (decide (firstFrom p i (len - i) ≥ 0)) (.leaf (.ret, [.i (firstFrom p i (len - i))])) (.leaf ro)).run = some r) (hge : ¬ i < len) : some ro = some r := by
  rw [show len - i = 0 by omega] at h
  simp only [firstFrom, run_ite, run_leaf] at h
  rw [if_neg (by simp)] at h
  exact h
end
theorem roundTK_head {C : Cfg} {tab : Tab} {f : FuncId} {b : Code} {k : Nat} {s : LSig} {j : D} {n : Int} {r : List D} (h : j.I = n) (hs : 2 ≤ s.head.length) : roundTK C tab f b k s (j :: r) = roundTK C tab f b k s (.i n :: r) := by
  obtain ⟨live, head, exits⟩ := s
  match head, hs with
  | a :: b :: c, _ => simp only [roundTK, roundTG, headL, headA, List.headD_cons, List.tail_cons, I_i, h]
theorem bytes3 : (Try.prog.types[3].bytes : Int) = 8 := by kernel_rfl
theorem bytes58 : Try.prog.types[58].bytes = 24 := by kernel_rfl
noncomputable def sp48 : SpL := []
noncomputable def lp48 : LpL := []
noncomputable def sw48 : SwL := []
noncomputable def tab48 : Tab := mkTab sp48 lp48 sw48
noncomputable def sp54 : SpL := []
noncomputable def lp54 : LpL := []
noncomputable def sw54 : SwL := []
noncomputable def tab54 : Tab := mkTab sp54 lp54 sw54
noncomputable def sp74 : SpL := [(48, mkF s48 G48)]
noncomputable def lp74 : LpL := []
noncomputable def sw74 : SwL := []
noncomputable def tab74 : Tab := mkTab sp74 lp74 sw74
noncomputable def sp51 : SpL := [(74, mkF s74 G74)]
noncomputable def lp51 : LpL := [(2, mkL l51_2 G51_2)]
noncomputable def sw51 : SwL := []
noncomputable def tab51 : Tab := mkTab sp51 lp51 sw51
noncomputable def sp63 : SpL := [(51, mkF s51 G51), (74, mkF s74 G74)]
noncomputable def lp63 : LpL := []
noncomputable def sw63 : SwL := []
noncomputable def tab63 : Tab := mkTab sp63 lp63 sw63
noncomputable def sp47 : SpL := [(48, mkF s48 G48), (63, mkF s63 G63), (74, mkF s74 G74)]
noncomputable def lp47 : LpL := []
noncomputable def sw47 : SwL := []
noncomputable def tab47 : Tab := mkTab sp47 lp47 sw47
noncomputable def sp18 : SpL := [(54, mkF s54 G54)]
noncomputable def lp18 : LpL := [(4, mkL l18_4 G18_4)]
noncomputable def sw18 : SwL := []
noncomputable def tab18 : Tab := mkTab sp18 lp18 sw18
noncomputable def sp75 : SpL := []
noncomputable def lp75 : LpL := []
noncomputable def sw75 : SwL := []
noncomputable def tab75 : Tab := mkTab sp75 lp75 sw75
set_option linter.unusedVariables false
set_option maxRecDepth 100000
theorem t48 (a b c : D) : fnT C tab48 48 s48 [a, b, c] =
  T.ite (decide (a.I ≥ b.I)) (T.leaf [D.b (decide (a.I ≤ c.I))]) (T.leaf [D.b false]) := by kernel_rfl
theorem t54 (a b c : D) : fnT C tab54 54 s54 [a, b, c] =
  T.ite (decide (a.I ≥ b.I)) (T.leaf [D.b (decide (a.I ≤ c.I))]) (T.leaf [D.b false]) := by kernel_rfl
theorem t74 (a b c d : D) : fnT C tab74 74 s74 [a, b, c, d] =
  T.ite (!within a.I (0 : Int) (IntKind.wrap IntKind.i64 (d.I - (1 : Int)))) (T.leaf [D.b true]) (T.ite (!within b.I (0 : Int) (IntKind.wrap IntKind.i64 (d.I - (1 : Int)))) (T.leaf [D.b true]) (T.leaf [D.b !within c.I (-1000000 : Int) (1000000 : Int)])) := by kernel_rfl
theorem t51 (a b : D) : fnT C tab51 51 s51 [a, b] =
  T.need (yes ((1 : Int) ≤ b.I ∧ b.I ≤ (500 : Int) ∧ a.L.length < big ∧ (a.L.length : Int) = (a.L.length : Int) ∧ (0 : Int) ≤ (0 : Int) ∧ (0 : Int) ≤ (a.L.length : Int))) (T.ite (decide (firstFrom (fun j => !linkOk b.I a.L j) (Int.toNat (0 : Int)) (a.L.length - Int.toNat (0 : Int)) ≥ (0 : Int))) (T.leaf [D.i (firstFrom (fun j => !linkOk b.I a.L j) (Int.toNat (0 : Int)) (a.L.length - Int.toNat (0 : Int)))]) (T.leaf [D.i (-1 : Int)])) := by kernel_rfl
theorem t51_2 (a b c d : D) : roundT C tab51 51 (loopOf C.P 51 2) l51_2 [a, b, c, d] =
  T.ite (decide (d.I < c.I)) (T.need (decide ((0 : Int) ≤ d.I ∧ d.I < (a.L.length : Int))) (T.need (yes ((1 : Int) ≤ b.I ∧ b.I ≤ (500 : Int))) (T.ite (!linkP b.I (D.I (List.getD (List.getD a.L d.I.toNat []) 0 default)) (D.I (List.getD (List.getD a.L d.I.toNat []) (0 + 1) default)) (D.I (List.getD (List.getD a.L d.I.toNat []) (0 + 1 + 1) default))) (T.leaf (Rd.out Ex.ret [D.i d.I])) (T.leaf (Rd.again [D.l a.L, D.i b.I, D.i c.I, D.i (IntKind.wrap IntKind.i64 (d.I + (1 : Int)))]))))) (T.leaf (Rd.out (Ex.exit 0) [])) := by kernel_rfl
theorem t63 (a b : D) : fnT C tab63 63 s63 [a, b] =
  T.need (yes ((1 : Int) ≤ b.I ∧ b.I ≤ (500 : Int) ∧ a.L.length < big)) (T.leaf [D.b (decide (firstFrom (fun j => !linkOk b.I a.L j) 0 a.L.length ≥ (0 : Int)))]) := by kernel_rfl
theorem t47 (a b : D) : fnT C tab47 47 s47 [a, b] =
  T.ite (within a.I (1 : Int) (500 : Int)) (T.ite (decide ((b.L.length : Int) ≤ (5000 : Int))) (T.need (yes ((1 : Int) ≤ a.I ∧ a.I ≤ (500 : Int) ∧ b.L.length < big)) (T.leaf [D.b !!allFrom (linkOk a.I b.L) 0 b.L.length])) (T.leaf [D.b false])) (T.leaf [D.b false]) := by kernel_rfl
theorem t18 (a b : D) : fnT C tab18 18 s18 [a, b] =
  T.ite (!within a.I (1 : Int) (500 : Int)) (T.leaf [D.b false]) (T.ite (decide ((b.L.length : Int) > (5000 : Int))) (T.leaf [D.b false]) (T.need (yes ((1 : Int) ≤ a.I ∧ a.I ≤ (500 : Int) ∧ b.L.length < big ∧ (0 : Int) ≤ (0 : Int) ∧ (0 : Int) ≤ (b.L.length : Int))) (T.ite (allFrom (linkOk a.I b.L) (Int.toNat (0 : Int)) (b.L.length - Int.toNat (0 : Int))) (T.leaf [D.b true]) (T.leaf [D.b false])))) := by kernel_rfl
theorem t18_4 (a b c : D) : roundT C tab18 18 (loopOf C.P 18 4) l18_4 [a, b, c] =
  T.ite (decide (c.I < (b.L.length : Int))) (T.need (decide ((0 : Int) ≤ c.I ∧ c.I < (b.L.length : Int))) (T.ite (!within (D.I (List.getD (List.getD b.L c.I.toNat []) 0 default)) (0 : Int) (IntKind.wrap IntKind.i64 (a.I - (1 : Int)))) (T.leaf (Rd.out Ex.ret [D.b false])) (T.ite (!within (D.I (List.getD (List.getD b.L c.I.toNat []) (0 + 1) default)) (0 : Int) (IntKind.wrap IntKind.i64 (a.I - (1 : Int)))) (T.leaf (Rd.out Ex.ret [D.b false])) (T.ite (!within (D.I (List.getD (List.getD b.L c.I.toNat []) (0 + 1 + 1) default)) (-1000000 : Int) (1000000 : Int)) (T.leaf (Rd.out Ex.ret [D.b false])) (T.leaf (Rd.again [D.i a.I, D.l b.L, D.i (IntKind.wrap IntKind.i64 (c.I + (1 : Int)))])))))) (T.leaf (Rd.out (Ex.exit 0) [])) := by kernel_rfl
theorem ok48 (n : Nat) : FnOK C (n + 1) 48 (mkF s48 G48) := by
  refine fn_ofS hC (sp := sp48) (lp := lp48) (sw := sw48) trivial trivial (by kernel_rfl) [] (by kernel_rfl) rfl (fun k hk => by cases hk) fun ds rr h => ?_
  unfold G48 at h
  split at h
  · rename_i a b c
    refine (congrArg T.run (t48 a b c)).trans ?_
    rw [← h]
    simp only [run_ite, run_leaf, Lite.within]
    split <;> rename_i hc
    · have : b.I ≤ a.I := of_decide_eq_true hc
      simp [this]
    · have : ¬ b.I ≤ a.I := fun h => hc (decide_eq_true h)
      simp [this]
  · cases h
theorem ok54 (n : Nat) : FnOK C (n + 1) 54 (mkF s54 G54) := by
  refine fn_ofS hC (sp := sp54) (lp := lp54) (sw := sw54) trivial trivial (by kernel_rfl) [] (by kernel_rfl) rfl (fun k hk => by cases hk) fun ds rr h => ?_
  unfold G54 at h
  split at h
  · rename_i a b c
    refine (congrArg T.run (t54 a b c)).trans ?_
    rw [← h]
    simp only [run_ite, run_leaf, Lite.within]
    split <;> rename_i hc
    · have : b.I ≤ a.I := of_decide_eq_true hc
      simp [this]
    · have : ¬ b.I ≤ a.I := fun h => hc (decide_eq_true h)
      simp [this]
  · cases h
theorem ok74 (n : Nat) : FnOK C (n + 2) 74 (mkF s74 G74) := by
  refine fn_ofS hC (sp := sp74) (lp := lp74) (sw := sw74) ⟨ok48 n, trivial⟩ trivial (by kernel_rfl) [] (by kernel_rfl) rfl (fun k hk => by cases hk) fun ds rr h => ?_
  unfold G74 at h
  split at h
  · rename_i a b c d
    obtain ⟨hp, h⟩ := need_some h
    rw [yes_iff] at hp
    obtain ⟨h1, h2⟩ := hp
    refine (congrArg T.run (t74 a b c d)).trans ?_
    rw [← h]
    have w : IntKind.i64.wrap (d.I - 1) = d.I - 1 := wrap_id (by omega) (by omega)
    rw [w]
    unfold linkP
    refine go_not (fun c1 => by simp [c1]) fun c1 => go_not (fun c2 => by simp [c1, c2]) fun c2 => by simp [c1, c2]
  · cases h
theorem ok51_2 (n : Nat) : LoopSim C (n + 2) 51 (loopOf C.P 51 2) (mkL l51_2 G51_2) := by
  refine loop_ofK hC (sp := sp51) (lp := lp51) (sw := sw51) ⟨ok74 n, trivial⟩ trivial 0 [] (by kernel_rfl) rfl (fun k hk => by cases hk) (by kernel_rfl) (fun ds => ((ds.getD 2 default).I - (ds.getD 3 default).I).toNat) fun ds rr h => ?_
  unfold G51_2 at h
  split at h
  · rename_i l n m i
    obtain ⟨hp, h⟩ := need_some h
    rw [yes_iff] at hp
    obtain ⟨h1, h2, h3, h4, h5, h6⟩ := hp
    have hb := big_eq
    refine ⟨by rw [fuelC]; simp; omega, ?_⟩
    rw [show roundTK C (mkTab sp51 lp51 sw51) 51 (loopOf C.P 51 2) 0 l51_2 [l, n, m, i] = _ from t51_2 l n m i]
    obtain ⟨k, hk⟩ : ∃ k : Nat, i.I = k := ⟨i.I.toNat, by omega⟩
    simp only [hk, h4, Int.toNat_natCast] at h h6 ⊢
    refine rd_if (fun hlt => ?_) fun hge => rd_out (first_end h (by omega))
    have hkl : k < l.L.length := by omega
    obtain ⟨s1, s2⟩ := first_step h hkl
    refine rd_dec ⟨by omega, by omega⟩ (rd_yes ⟨h1, h2⟩ (rd_not (fun c => rd_out (s1 ?_)) fun c => ?_))
    · show (!linkOk n.I l.L k) = true
      unfold linkOk lkF lkT lkW ix
      rw [c]; rfl
    · rw [wrap_succ (by omega)]
      refine rd_again ((need_yes ⟨h1, h2, h3, rfl, by simp only [I_i]; omega, by simp only [I_i, L_l]; omega⟩).trans (s2 ?_)) (show ((l.L.length : Int) - ((k + 1 : Nat) : Int)).toNat < (m.I - i.I).toNat by omega)
      show (!linkOk n.I l.L k) = false
      unfold linkOk lkF lkT lkW ix
      rw [c]; rfl
  · cases h
theorem ok51 (n : Nat) : FnOK C (n + 3) 51 (mkF s51 G51) := by
  refine fn_ofS hC (sp := sp51) (lp := lp51) (sw := sw51) ⟨ok74 n, trivial⟩ trivial (by kernel_rfl) [2] (by kernel_rfl) (by kernel_rfl) (fun k hk L hL => by simp at hk; subst hk; cases hL; exact ok51_2 n) fun ds rr h => ?_
  unfold G51 at h
  split at h
  · rename_i l n
    obtain ⟨hp, h⟩ := need_some h
    rw [yes_iff] at hp
    obtain ⟨h1, h2, h3⟩ := hp
    refine (congrArg T.run (t51 l n)).trans ?_
    rw [← h]
    simp only [Int.toNat_zero, Nat.sub_zero]
    refine go_yes ⟨h1, h2, h3, by trivial, by omega, by omega⟩ (go_if (fun c => rfl) fun c => ?_)
    rw [firstFrom_neg (by omega)]
  · cases h
theorem ok63 (n : Nat) : FnOK C (n + 4) 63 (mkF s63 G63) := by
  refine fn_ofS hC (sp := sp63) (lp := lp63) (sw := sw63) ⟨ok51 n, ok74 (n + 1), trivial⟩ trivial (by kernel_rfl) [] (by kernel_rfl) rfl (fun k hk => by cases hk) fun ds rr h => ?_
  unfold G63 at h
  split at h
  · rename_i l n
    obtain ⟨hp, h⟩ := need_some h
    rw [yes_iff] at hp
    obtain ⟨h1, h2, h3⟩ := hp
    refine (congrArg T.run (t63 l n)).trans ?_
    rw [← h]
    refine go_yes ⟨h1, h2, h3⟩ ?_
    rw [firstFrom_all]
    simp only [Bool.not_not]
  · cases h
theorem ok47 (n : Nat) : FnOK C (n + 5) 47 (mkF s47 G47) := by
  refine fn_ofS hC (sp := sp47) (lp := lp47) (sw := sw47) ⟨ok48 (n + 3), ok63 n, ok74 (n + 2), trivial⟩ trivial (by kernel_rfl) [] (by kernel_rfl) rfl (fun k hk => by cases hk) fun ds rr h => ?_
  unfold G47 at h
  split at h
  · rename_i n l
    obtain ⟨hp, h⟩ := need_some h
    rw [yes_iff] at hp
    have h1 := hp
    refine (congrArg T.run (t47 n l)).trans ?_
    rw [← h]
    unfold netOk
    refine go_ite (fun c => go_if (fun c2 => ?_) fun c2 => ?_) fun c => by simp [c]
    · have c3 := Lite.within_iff.1 c
      refine go_yes ⟨c3.1, c3.2, h1⟩ ?_
      have c4 : l.L.length ≤ 5000 := by omega
      simp [c, c4]
    · have c4 : ¬ l.L.length ≤ 5000 := by omega
      simp [c4]
  · cases h
theorem ok18_4 (n : Nat) : LoopSim C (n + 1) 18 (loopOf C.P 18 4) (mkL l18_4 G18_4) := by
  refine loop_ofK hC (sp := sp18) (lp := lp18) (sw := sw18) ⟨ok54 n, trivial⟩ trivial 0 [] (by kernel_rfl) rfl (fun k hk => by cases hk) (by kernel_rfl) (fun ds => (((ds.getD 1 default).L.length : Int) - (ds.getD 2 default).I).toNat) fun ds rr h => ?_
  unfold G18_4 at h
  split at h
  · rename_i n l i
    obtain ⟨hp, h⟩ := need_some h
    rw [yes_iff] at hp
    obtain ⟨h1, h2, h3, h4, h5⟩ := hp
    have hb := big_eq
    refine ⟨by rw [fuelC]; simp; omega, ?_⟩
    rw [show roundTK C (mkTab sp18 lp18 sw18) 18 (loopOf C.P 18 4) 0 l18_4 [n, l, i] = _ from t18_4 n l i]
    obtain ⟨k, hk⟩ : ∃ k : Nat, i.I = k := ⟨i.I.toNat, by omega⟩
    have w : IntKind.i64.wrap (n.I - 1) = n.I - 1 := wrap_id (by omega) (by omega)
    simp only [hk, w, Int.toNat_natCast] at h h5 ⊢
    refine rd_if (fun hlt => ?_) fun hge => rd_out (all_end h (by omega))
    have hkl : k < l.L.length := by omega
    obtain ⟨s1, s2⟩ := all_step h hkl
    have e0 : linkOk n.I l.L k = linkP n.I ((l.L.getD k []).getD 0 default).I ((l.L.getD k []).getD 1 default).I ((l.L.getD k []).getD 2 default).I := rfl
    simp only [e0, linkP] at s1 s2
    refine rd_dec ⟨by omega, by omega⟩ (rd_not (fun c => rd_out (s1 (by rw [c]; rfl))) fun c1 => rd_not (fun c => rd_out (s1 (by rw [c, Bool.and_false]; rfl))) fun c2 => rd_not (fun c => rd_out (s1 (by rw [c, Bool.and_false]))) fun c3 => ?_)
    rw [wrap_succ (by omega)]
    exact rd_again ((need_yes ⟨h1, h2, h3, by simp only [I_i]; omega, by simp only [I_i, L_l]; omega⟩).trans (s2 (by rw [c1, c2, c3]; rfl))) (show ((l.L.length : Int) - ((k + 1 : Nat) : Int)).toNat < ((l.L.length : Int) - i.I).toNat by omega)
  · cases h
theorem ok18 (n : Nat) : FnOK C (n + 2) 18 (mkF s18 G18) := by
  refine fn_ofS hC (sp := sp18) (lp := lp18) (sw := sw18) ⟨ok54 n, trivial⟩ trivial (by kernel_rfl) [4] (by kernel_rfl) (by kernel_rfl) (fun k hk L hL => by simp at hk; subst hk; cases hL; exact ok18_4 n) fun ds rr h => ?_
  unfold G18 at h
  split at h
  · rename_i n l
    obtain ⟨hp, h⟩ := need_some h
    rw [yes_iff] at hp
    have h1 := hp
    refine (congrArg T.run (t18 n l)).trans ?_
    rw [← h]
    unfold netOk
    refine go_not (fun c => by simp [c]) fun c => go_if (fun c2 => ?_) fun c2 => ?_
    · have c4 : ¬ l.L.length ≤ 5000 := by omega
      simp [c4]
    · have c3 := Lite.within_iff.1 c
      have c4 : l.L.length ≤ 5000 := by omega
      refine go_yes ⟨c3.1, c3.2, h1, by omega, by omega⟩ ?_
      simp only [Int.toNat_zero, Nat.sub_zero, c, c4, decide_true, Bool.true_and]
      refine go_ite (fun c5 => by rw [c5]) fun c5 => by rw [c5]
  · cases h
noncomputable def sp49 : SpL := [(75, mkF s75 Gcl)]
noncomputable def lp49 : LpL := [(3, mkL l49_3 G49_3)]
noncomputable def sw49 : SwL := []
noncomputable def tab49 : Tab := mkTab sp49 lp49 sw49
noncomputable def sp55 : SpL := []
noncomputable def lp55 : LpL := [(3, mkL l55_3 G55_3)]
noncomputable def sw55 : SwL := []
noncomputable def tab55 : Tab := mkTab sp55 lp55 sw55
noncomputable def sp53 : SpL := []
noncomputable def lp53 : LpL := [(1, mkLK 1 l53_1 G53_1)]
noncomputable def sw53 : SwL := []
noncomputable def tab53 : Tab := mkTab sp53 lp53 sw53
noncomputable def sp68 : SpL := []
noncomputable def lp68 : LpL := [(3, mkLK 1 l68_3 G68_3), (9, mkLK 1 l68_9 G68_9), (12, mkLK 1 l68_12 G68_12)]
noncomputable def sw68 : SwL := []
noncomputable def tab68 : Tab := mkTab sp68 lp68 sw68
set_option linter.unusedVariables false
set_option maxRecDepth 100000
theorem t49 (a b : D) : fnT C tab49 49 s49 [a, b] =
  T.need (yes (b.L.length ≤ 1073741824)) (T.ite (List.isEmpty b.L) (T.need (yes ((↑(0 + 1) : Int) = (1 : Int) ∧ (0 : Int) = (0 : Int) ∧ (1 : Int) ≤ a.I ∧ a.I ≤ (500 : Int))) (T.leaf [D.i 0, D.i a.I, D.i (↑(Int.toNat (↑(List.length (extraF 0 a.I.toNat)) : Int)) : Int), D.l (extraF 0 a.I.toNat)])) (T.need (yes ((↑0 : Int) = (0 : Int) ∧ (0 : Int) ≤ (0 : Int) ∧ (0 : Int) ≤ a.I ∧ a.I ≤ (500 : Int) ∧ (↑(Int.toNat (b.L.length : Int)) : Int) = (b.L.length : Int) ∧ (b.L.length : Int) + (a.I - (0 : Int)) ≤ (5500 : Int))) (T.leaf [D.i 0, D.i a.I, D.i (↑(Int.toNat (↑(List.length (b.L ++ extraF (Int.toNat (0 : Int)) (Int.toNat (a.I - (0 : Int))))) : Int)) : Int), D.l (b.L ++ extraF (Int.toNat (0 : Int)) (Int.toNat (a.I - (0 : Int))))]))) := by kernel_rfl
theorem t49_3_0 (a b c d e : D) : roundT C tab49 49 (loopOf C.P 49 3) l49_3 [.i 0, a, b, c, d, e] =
  T.ite (decide (b.I < a.I)) (T.need true (T.ite false (T.leaf (Rd.again [D.i 0, D.i a.I, D.i (IntKind.wrap IntKind.i64 (b.I + (1 : Int))), D.i c.I, D.i (d.I.toNat : Int), D.l e.L])) (T.need (decide (d.I.toNat ≤ e.L.length ∧ d.I.toNat + List.length (List.take (List.length [[D.i 0, D.i b.I, D.i 0]]) [[D.i 0, D.i b.I, D.i 0]]) ≤ 2 ^ 62 ∧ (d.I.toNat + List.length (List.take (List.length [[D.i 0, D.i b.I, D.i 0]]) [[D.i 0, D.i b.I, D.i 0]])) * Try.prog.types[58].bytes ≤ 2 ^ 47)) (T.leaf (Rd.again [D.i 0, D.i a.I, D.i (IntKind.wrap IntKind.i64 (b.I + (1 : Int))), D.i c.I, D.i (↑(d.I.toNat + List.length (List.take (List.length [[D.i 0, D.i b.I, D.i 0]]) [[D.i 0, D.i b.I, D.i 0]])) : Int), D.l (List.take d.I.toNat e.L ++ List.take (List.length [[D.i 0, D.i b.I, D.i 0]]) [[D.i 0, D.i b.I, D.i 0]])]))))) (T.leaf (Rd.out (Ex.exit 0) [D.i 0, D.i c.I, D.i (d.I.toNat : Int), D.l e.L])) := by kernel_rfl
theorem t49_3_1 (a b c : D) : roundT C tab49 49 (loopOf C.P 49 3) l49_3 [.i 1, a, b, c] =
  T.ite (decide (b.I < a.I)) (T.need true (T.ite false (T.leaf (Rd.again [D.i 1, D.i a.I, D.i (IntKind.wrap IntKind.i64 (b.I + (1 : Int))), D.i c.I])) (T.need true (T.leaf (Rd.again [D.i 0, D.i a.I, D.i (IntKind.wrap IntKind.i64 (b.I + (1 : Int))), D.i c.I, D.i 1, D.l [[D.i 0, D.i b.I, D.i 0]]]))))) (T.leaf (Rd.out (Ex.exit 0) [D.i 1, D.i c.I])) := by kernel_rfl
theorem t55 (a b : D) : fnT C tab55 55 s55 [a, b] =
  T.ite (List.isEmpty b.L) (T.need (yes ((↑0 : Int) = (0 : Int) ∧ (0 : Int) = (0 : Int) ∧ (1 : Int) ≤ a.I ∧ a.I ≤ (500 : Int))) (T.leaf [D.i 1, D.i (↑(Int.toNat (↑(List.length (extraF 0 a.I.toNat)) : Int)) : Int), D.l (extraF 0 a.I.toNat)])) (T.need (decide (b.L.length ≤ 2 ^ 62 ∧ b.L.length * Try.prog.types[58].bytes ≤ 2 ^ 47)) (T.need (yes ((↑(0 + 1) : Int) = (1 : Int) ∧ (0 : Int) ≤ (0 : Int) ∧ (0 : Int) ≤ a.I ∧ a.I ≤ (500 : Int) ∧ (b.L.length : Int) = (b.L.length : Int) ∧ (b.L.length : Int) + (a.I - (0 : Int)) ≤ (5500 : Int))) (T.leaf [D.i 1, D.i (↑(Int.toNat (↑(List.length (b.L ++ extraF (Int.toNat (0 : Int)) (Int.toNat (a.I - (0 : Int))))) : Int)) : Int), D.l (b.L ++ extraF (Int.toNat (0 : Int)) (Int.toNat (a.I - (0 : Int))))]))) := by kernel_rfl
theorem t55_3_0 (a b : D) : roundT C tab55 55 (loopOf C.P 55 3) l55_3 [.i 0, a, b] =
  T.ite (decide (b.I < a.I)) (T.need true (T.ite false (T.leaf (Rd.again [D.i 0, D.i a.I, D.i (IntKind.wrap IntKind.i64 (b.I + (1 : Int)))])) (T.need true (T.leaf (Rd.again [D.i 1, D.i a.I, D.i 1, D.i (IntKind.wrap IntKind.i64 (b.I + (1 : Int))), D.l [[D.i 0, D.i b.I, D.i 0]]]))))) (T.leaf (Rd.out (Ex.exit 0) [D.i 0])) := by kernel_rfl
theorem t55_3_1 (a b c d : D) : roundT C tab55 55 (loopOf C.P 55 3) l55_3 [.i 1, a, b, c, d] =
  T.ite (decide (c.I < a.I)) (T.need true (T.ite false (T.leaf (Rd.again [D.i 1, D.i a.I, D.i (b.I.toNat : Int), D.i (IntKind.wrap IntKind.i64 (c.I + (1 : Int))), D.l d.L])) (T.need (decide (b.I.toNat ≤ d.L.length ∧ b.I.toNat + List.length (List.take (List.length [[D.i 0, D.i c.I, D.i 0]]) [[D.i 0, D.i c.I, D.i 0]]) ≤ 2 ^ 62 ∧ (b.I.toNat + List.length (List.take (List.length [[D.i 0, D.i c.I, D.i 0]]) [[D.i 0, D.i c.I, D.i 0]])) * Try.prog.types[58].bytes ≤ 2 ^ 47)) (T.leaf (Rd.again [D.i 1, D.i a.I, D.i (↑(b.I.toNat + List.length (List.take (List.length [[D.i 0, D.i c.I, D.i 0]]) [[D.i 0, D.i c.I, D.i 0]])) : Int), D.i (IntKind.wrap IntKind.i64 (c.I + (1 : Int))), D.l (List.take b.I.toNat d.L ++ List.take (List.length [[D.i 0, D.i c.I, D.i 0]]) [[D.i 0, D.i c.I, D.i 0]])]))))) (T.leaf (Rd.out (Ex.exit 0) [D.i 1, D.i (b.I.toNat : Int), D.l d.L])) := by kernel_rfl
theorem t53 (a b : D) : fnTW C tab53 53 s53 [a, b] =
  T.need (yes ((a.I.toNat : Int) = (b.L.length : Int) ∧ b.L.length ≤ 1000000 ∧ (0 : Int) ≤ (0 : Int) ∧ (0 : Int) ≤ (b.L.length : Int) ∧ IntKind.wrap IntKind.i64 ((a.I.toNat : Int) - (1 : Int)) = (b.L.length : Int) - (1 : Int) - (0 : Int))) (T.leaf [D.l (revR (Int.toNat (0 : Int)) (b.L.length - Int.toNat (0 : Int)) b.L)]) := by kernel_rfl
theorem t53_1 (a b c d : D) : roundTK C tab53 53 (loopOf C.P 53 1) 1 l53_1 [a, b, c, d] =
  T.ite (decide (b.I < c.I)) (T.need (decide ((0 : Int) ≤ c.I ∧ c.I < (a.I.toNat : Int))) (T.need (decide (c.I.toNat < d.L.length)) (T.need (decide ((0 : Int) ≤ b.I ∧ b.I < (a.I.toNat : Int))) (T.need (decide (b.I.toNat < d.L.length)) (T.need (decide ((0 : Int) ≤ b.I ∧ b.I < (a.I.toNat : Int))) (T.need (decide (b.I.toNat < d.L.length)) (T.need (decide ((0 : Int) ≤ c.I ∧ c.I < (a.I.toNat : Int))) (T.need (decide (c.I.toNat < List.length (List.set d.L b.I.toNat (updC (List.getD d.L b.I.toNat []) [D.i (D.I (List.getD (List.getD d.L c.I.toNat []) 0 default))] 0 0 (List.length [K.int IntKind.i64]))))) (T.leaf (Rd.again [D.i (a.I.toNat : Int), D.i (IntKind.wrap IntKind.i64 (b.I + (1 : Int))), D.i (IntKind.wrap IntKind.i64 (c.I - (1 : Int))), D.l (List.set (List.set d.L b.I.toNat (updC (List.getD d.L b.I.toNat []) [D.i (D.I (List.getD (List.getD d.L c.I.toNat []) 0 default))] 0 0 (List.length [K.int IntKind.i64]))) c.I.toNat (updC (List.getD (List.set d.L b.I.toNat (updC (List.getD d.L b.I.toNat []) [D.i (D.I (List.getD (List.getD d.L c.I.toNat []) 0 default))] 0 0 (List.length [K.int IntKind.i64]))) c.I.toNat []) [D.i (D.I (List.getD (List.getD d.L b.I.toNat []) 0 default))] 0 0 (List.length [K.int IntKind.i64])))])))))))))) (T.leaf (Rd.out (Ex.exit 0) [D.l d.L])) := by kernel_rfl
theorem t68 (a b c d : D) : fnTW C tab68 68 s68 [a, b, c, d] =
  T.need (decide ((0 : Int) ≤ a.I ∧ a.I = a.I ∧ a.I ≤ (2 : Int) ^ 40 ∧ (↑Try.prog.types[3].bytes : Int) * a.I ≤ (2 : Int) ^ 46)) (T.need (yes ((1 : Int) ≤ a.I ∧ a.I ≤ (500 : Int) ∧ (c.I.toNat : Int) = a.I ∧ (↑(List.length (List.replicate a.I.toNat [D.i 0])) : Int) = a.I ∧ (↑(List.length (List.replicate a.I.toNat [D.i 0])) : Int) = a.I ∧ (0 : Int) ≤ (0 : Int) ∧ (0 : Int) ≤ a.I ∧ List.replicate a.I.toNat [D.i 0] = List.replicate (Int.toNat (0 : Int)) [D.i (-1 : Int)] ++ List.replicate (Int.toNat (a.I - (0 : Int))) [D.i 0])) (T.need (yes (goodL a.I b.L ∧ (a.I.toNat : Int) = a.I ∧ (a.I.toNat : Int) = a.I ∧ IntKind.wrap IntKind.i64 (a.I + (1 : Int)) = a.I + (1 : Int) ∧ (0 : Int) ≤ (0 : Int) ∧ (0 : Int) ≤ a.I + (1 : Int) ∧ (d.L.length : Int) = a.I ∧ (↑(List.length (List.replicate a.I.toNat [D.i (-1 : Int)])) : Int) = a.I ∧ room d.L ((b.L.length : Int) * (a.I + (1 : Int) - (0 : Int))))) (T.leaf [D.i (a.I.toNat : Int), D.i (roundsR b.L (Int.toNat (a.I + (1 : Int) - (0 : Int))) (d.L, List.replicate a.I.toNat [D.i (-1 : Int)], (-1 : Int))).snd.snd, D.l (roundsR b.L (Int.toNat (a.I + (1 : Int) - (0 : Int))) (d.L, List.replicate a.I.toNat [D.i (-1 : Int)], (-1 : Int))).fst, D.l (roundsR b.L (Int.toNat (a.I + (1 : Int) - (0 : Int))) (d.L, List.replicate a.I.toNat [D.i (-1 : Int)], (-1 : Int))).snd.fst]))) := by kernel_rfl
theorem t68_3 (a b c d e f g h : D) : roundTK C tab68 68 (loopOf C.P 68 3) 1 l68_3 [a, b, c, d, e, f, g, h] =
  T.ite (decide (f.I < e.I)) (T.need (decide ((0 : Int) ≤ f.I ∧ f.I < (d.I.toNat : Int))) (T.need (decide (f.I.toNat < h.L.length)) (T.leaf (Rd.again [D.i a.I, D.l b.L, D.i (c.I.toNat : Int), D.i (d.I.toNat : Int), D.i e.I, D.i (IntKind.wrap IntKind.i64 (f.I + (1 : Int))), D.l g.L, D.l (List.set h.L f.I.toNat (updC (List.getD h.L f.I.toNat []) [D.i (-1 : Int)] 0 0 (List.length [K.int IntKind.i64])))])))) (T.leaf (Rd.out (Ex.exit 0) [D.i a.I, D.l b.L, D.i (c.I.toNat : Int), D.i (d.I.toNat : Int), D.l g.L, D.l h.L])) := by kernel_rfl
theorem t68_9 (a b c d e f g h i : D) : roundTK C tab68 68 (loopOf C.P 68 9) 1 l68_9 [a, b, c, d, e, f, g, h, i] =
  T.ite (decide (g.I < f.I)) (T.need (yes (goodL a.I b.L ∧ (c.I.toNat : Int) = a.I ∧ (d.I.toNat : Int) = a.I ∧ b.L = b.L ∧ (b.L.length : Int) = (b.L.length : Int) ∧ (0 : Int) ≤ (0 : Int) ∧ (0 : Int) ≤ (b.L.length : Int) ∧ (h.L.length : Int) = a.I ∧ (i.L.length : Int) = a.I ∧ room h.L ((b.L.length : Int) - (0 : Int)))) (T.ite (decide ((passR b.L (Int.toNat (0 : Int)) (b.L.length - Int.toNat (0 : Int)) (h.L, i.L, (-1 : Int))).snd.snd < (0 : Int))) (T.leaf (Rd.out (Ex.exit 2) [D.i (a.I.toNat : Int), D.i (passR b.L (Int.toNat (0 : Int)) (b.L.length - Int.toNat (0 : Int)) (h.L, i.L, (-1 : Int))).snd.snd, D.l (passR b.L (Int.toNat (0 : Int)) (b.L.length - Int.toNat (0 : Int)) (h.L, i.L, (-1 : Int))).fst, D.l (passR b.L (Int.toNat (0 : Int)) (b.L.length - Int.toNat (0 : Int)) (h.L, i.L, (-1 : Int))).snd.fst])) (T.leaf (Rd.again [D.i a.I, D.l b.L, D.i (a.I.toNat : Int), D.i (a.I.toNat : Int), D.i (passR b.L (Int.toNat (0 : Int)) (b.L.length - Int.toNat (0 : Int)) (h.L, i.L, (-1 : Int))).snd.snd, D.i f.I, D.i (IntKind.wrap IntKind.i64 (g.I + (1 : Int))), D.l (passR b.L (Int.toNat (0 : Int)) (b.L.length - Int.toNat (0 : Int)) (h.L, i.L, (-1 : Int))).fst, D.l (passR b.L (Int.toNat (0 : Int)) (b.L.length - Int.toNat (0 : Int)) (h.L, i.L, (-1 : Int))).snd.fst])))) (T.leaf (Rd.out (Ex.exit 2) [D.i (d.I.toNat : Int), D.i e.I, D.l h.L, D.l i.L])) := by kernel_rfl
theorem t68_12 (a b c d e f g h i j k l : D) : roundTK C tab68 68 (loopOf C.P 68 12) 1 l68_12 [a, b, c, d, e, f, g, h, i, j, k, l] =
  T.ite (decide (j.I < i.I)) (T.need (decide ((0 : Int) ≤ j.I ∧ j.I < (h.L.length : Int))) (T.need (decide ((0 : Int) ≤ D.I (List.getD (List.getD h.L j.I.toNat []) 0 default) ∧ D.I (List.getD (List.getD h.L j.I.toNat []) 0 default) < (c.I.toNat : Int))) (T.need (decide (Int.toNat (D.I (List.getD (List.getD h.L j.I.toNat []) 0 default)) < k.L.length)) (T.need (decide ((0 : Int) ≤ D.I (List.getD (List.getD h.L j.I.toNat []) (0 + 1) default) ∧ D.I (List.getD (List.getD h.L j.I.toNat []) (0 + 1) default) < (c.I.toNat : Int))) (T.need (decide (Int.toNat (D.I (List.getD (List.getD h.L j.I.toNat []) (0 + 1) default)) < k.L.length)) (T.ite (decide (IntKind.wrap IntKind.i64 (D.I (List.getD (List.getD k.L (Int.toNat (D.I (List.getD (List.getD h.L j.I.toNat []) 0 default))) []) 0 default) + D.I (List.getD (List.getD h.L j.I.toNat []) (0 + 1 + 1) default)) > D.I (List.getD (List.getD k.L (Int.toNat (D.I (List.getD (List.getD h.L j.I.toNat []) (0 + 1) default))) []) 0 default))) (T.need (decide ((0 : Int) ≤ D.I (List.getD (List.getD h.L j.I.toNat []) (0 + 1) default) ∧ D.I (List.getD (List.getD h.L j.I.toNat []) (0 + 1) default) < (c.I.toNat : Int))) (T.need (decide (Int.toNat (D.I (List.getD (List.getD h.L j.I.toNat []) (0 + 1) default)) < k.L.length)) (T.need (decide ((0 : Int) ≤ D.I (List.getD (List.getD h.L j.I.toNat []) (0 + 1) default) ∧ D.I (List.getD (List.getD h.L j.I.toNat []) (0 + 1) default) < (d.I.toNat : Int))) (T.need (decide (Int.toNat (D.I (List.getD (List.getD h.L j.I.toNat []) (0 + 1) default)) < l.L.length)) (T.leaf (Rd.again [D.i a.I, D.l b.L, D.i (c.I.toNat : Int), D.i (d.I.toNat : Int), D.i (D.I (List.getD (List.getD h.L j.I.toNat []) (0 + 1) default)), D.i f.I, D.i g.I, D.l h.L, D.i i.I, D.i (IntKind.wrap IntKind.i64 (j.I + (1 : Int))), D.l (List.set k.L (Int.toNat (D.I (List.getD (List.getD h.L j.I.toNat []) (0 + 1) default))) (updC (List.getD k.L (Int.toNat (D.I (List.getD (List.getD h.L j.I.toNat []) (0 + 1) default))) []) [D.i (IntKind.wrap IntKind.i64 (D.I (List.getD (List.getD k.L (Int.toNat (D.I (List.getD (List.getD h.L j.I.toNat []) 0 default))) []) 0 default) + D.I (List.getD (List.getD h.L j.I.toNat []) (0 + 1 + 1) default)))] 0 0 (List.length [K.int IntKind.i64]))), D.l (List.set l.L (Int.toNat (D.I (List.getD (List.getD h.L j.I.toNat []) (0 + 1) default))) (updC (List.getD l.L (Int.toNat (D.I (List.getD (List.getD h.L j.I.toNat []) (0 + 1) default))) []) [D.i j.I] 0 0 (List.length [K.int IntKind.i64])))])))))) (T.leaf (Rd.again [D.i a.I, D.l b.L, D.i (c.I.toNat : Int), D.i (d.I.toNat : Int), D.i e.I, D.i f.I, D.i g.I, D.l h.L, D.i i.I, D.i (IntKind.wrap IntKind.i64 (j.I + (1 : Int))), D.l k.L, D.l l.L])))))))) (T.leaf (Rd.out (Ex.exit 4) [D.i a.I, D.l b.L, D.i (c.I.toNat : Int), D.i (d.I.toNat : Int), D.i e.I, D.i f.I, D.i g.I, D.l k.L, D.l l.L])) := by kernel_rfl
set_option linter.unusedVariables false
set_option maxRecDepth 100000
theorem t75 (a : D) : fnT C tab75 75 s75 [a] =
  T.need (!List.isEmpty a.L) (T.ite (List.isEmpty a.L) (T.leaf [D.i 1]) (T.need (decide (a.L.length ≤ 2 ^ 62 ∧ a.L.length * Try.prog.types[58].bytes ≤ 2 ^ 47)) (T.leaf [D.i 0, D.i (a.L.length : Int), D.l a.L]))) := by kernel_rfl
set_option maxRecDepth 100000
theorem len_rs (R : List (List D)) (j : Nat) (v : Int) : (rs R j v).length = R.length := by simp [rs]
theorem rg_rs {R : List (List D)} {j : Nat} (hj : j < R.length) (v : Int) (i : Nat) : rg (rs R j v) i = if i = j then v else rg R i := by
  unfold rg rs
  simp only [List.getD_eq_getElem?_getD, List.getElem?_set]
  by_cases e : i = j
  · subst e; simp [hj, ix, D.I]
  · rw [if_neg (fun h => e h.symm), if_neg e]
theorem rg_ge {R : List (List D)} {j : Nat} (hj : R.length ≤ j) : rg R j = 0 := by
  unfold rg
  rw [List.getD_eq_getElem?_getD, List.getElem?_eq_none hj]
  rfl
theorem rg_def (R : List (List D)) (j : Nat) : ((R.getD j []).getD 0 default).I = rg R j := rfl
theorem rs_def (R : List (List D)) (j : Nat) (v : Int) : R.set j [.i v] = rs R j v := rfl
theorem rg_rep {n j : Nat} {v : Int} (hj : j < n) : rg (List.replicate n [.i v]) j = v := by
  unfold rg
  rw [List.getD_eq_getElem?_getD, List.getElem?_replicate, if_pos hj]
  rfl
theorem len_extraF : ∀ (i k : Nat), (extraF i k).length = k
  | _, 0 => rfl
  | i, k + 1 => by simp [extraF, len_extraF (i + 1) k]
theorem extraF_get : ∀ {i k j : Nat}, j < k → (extraF i k).getD j [] = [.i 0, .i ((i + j : Nat) : Int), .i 0]
  | i, k + 1, 0, _ => by simp [extraF]
  | i, k + 1, j + 1, h => by
    have := extraF_get (i := i + 1) (k := k) (j := j) (by omega)
    simp only [extraF, List.getD_cons_succ, this]
    rw [show i + 1 + j = i + (j + 1) by omega]
theorem extraF_snoc : ∀ (i k : Nat) (r : List (List D)), r ++ [[.i 0, .i (i : Int), .i 0]] ++ extraF (i + 1) k = r ++ extraF i (k + 1) := fun i k r => by simp [extraF]
theorem len_stepR (l : List (List D)) (i : Nat) (s : RSt) : (stepR l i s).1.length = s.1.length ∧ (stepR l i s).2.1.length = s.2.1.length := by
  unfold stepR
  split
  · exact ⟨len_rs .., len_rs ..⟩
  · exact ⟨rfl, rfl⟩
theorem len_passR (l : List (List D)) : ∀ (k i : Nat) (s : RSt), (passR l i k s).1.length = s.1.length ∧ (passR l i k s).2.1.length = s.2.1.length
  | 0, _, _ => ⟨rfl, rfl⟩
  | k + 1, i, s => by
    have h1 := len_passR l k (i + 1) (stepR l i s)
    have h2 := len_stepR l i s
    exact ⟨h1.1.trans h2.1, h1.2.trans h2.2⟩
theorem len_roundsR (l : List (List D)) : ∀ (k : Nat) (s : RSt), (roundsR l k s).1.length = s.1.length ∧ (roundsR l k s).2.1.length = s.2.1.length
  | 0, _ => ⟨rfl, rfl⟩
  | k + 1, s => by
    have h1 := len_passR l l.length 0 (s.1, s.2.1, -1)
    simp only [roundsR]
    split
    · exact h1
    · have h2 := len_roundsR l k (passR l 0 l.length (s.1, s.2.1, -1))
      exact ⟨h2.1.trans h1.1, h2.2.trans h1.2⟩
theorem room_step {n : Int} {l : List (List D)} (hl : goodL n l) {i : Nat} (hi : i < l.length) {s : RSt} (hs : (s.1.length : Int) = n) {k : Int} (h : room s.1 (k + 1)) : room (stepR l i s).1 k := by
  obtain ⟨M, h1, h2⟩ := h
  obtain ⟨h3, h4, h5⟩ := hl.2.2.2 i hi
  have h0 := h1 0
  refine ⟨M + 1000000, fun j => ?_, by omega⟩
  have hj := h1 j
  unfold stepR
  split
  · simp only
    rw [rg_rs (by omega)]
    split
    · have := h1 (lkF l i).toNat; omega
    · omega
  · omega
theorem room_pass {n : Int} {l : List (List D)} (hl : goodL n l) : ∀ (k i : Nat), i + k ≤ l.length → ∀ {s : RSt}, (s.1.length : Int) = n → ∀ {q : Int}, room s.1 (q + k) → room (passR l i k s).1 q
  | 0, _, _, s, _, q, h => by
    have e : q + ((0 : Nat) : Int) = q := by omega
    rw [e] at h; exact h
  | k + 1, i, hk, s, hs, q, h => by
    refine room_pass hl k (i + 1) (by omega) (by rw [(len_stepR l i s).1]; exact hs) (room_step hl (by omega) hs ?_)
    have e : q + ((k + 1 : Nat) : Int) = q + k + 1 := by omega
    rw [e] at h; exact h
theorem room_rg {t : List (List D)} {k : Int} (h : room t k) (hk : 0 ≤ k) (j : Nat) : -4611686018427387904 ≤ rg t j ∧ rg t j ≤ 4611686018427387904 := by
  obtain ⟨M, h1, h2⟩ := h
  have := h1 j
  omega
theorem ok75 (n : Nat) : FnOK C (n + 1) 75 (mkF s75 Gcl) := by
  refine clone_ok (ks := [.int .i64, .int .i64, .int .i64]) (by kernel_rfl) (fun kd c0 => by cases kd <;> cases c0 <;> kernel_rfl) ?_
  refine fn_ofS hC (sp := sp75) (lp := lp75) (sw := sw75) trivial trivial (by kernel_rfl) [] (by kernel_rfl) rfl (fun k hk => by cases hk) fun ds rr h => ?_
  unfold Gcl1 at h
  split at h
  · rename_i l
    obtain ⟨hp, h⟩ := need_some h
    rw [yes_iff] at hp
    obtain ⟨h1, h2⟩ := hp
    refine (congrArg T.run (t75 l)).trans ?_
    have hne : l.L.isEmpty = false := by cases hl : l.L with
      | nil => exact absurd hl h1
      | cons c cs => rfl
    rw [bytes58]
    refine go_need (by rw [hne]; rfl) (go_false hne (go_dec (by omega) h))
  · cases h
theorem ok49_3 (n : Nat) : LoopSim C (n + 1) 49 (loopOf C.P 49 3) (mkL l49_3 G49_3) := by
  refine loop_ofK hC (sp := sp49) (lp := lp49) (sw := sw49) ⟨ok75 n, trivial⟩ trivial 0 [] (by kernel_rfl) rfl (fun k hk => by cases hk) (by kernel_rfl) (fun ds => ((ds.getD 1 default).I - (ds.getD 2 default).I).toNat) fun ds rr h => ?_
  unfold G49_3 at h
  split at h
  · rename_i j k i n m r
    obtain ⟨hp, h⟩ := need_some h
    rw [yes_iff] at hp
    obtain ⟨hj, h1, h2, h3, h4, h5⟩ := hp
    have hb := big_eq
    refine ⟨by rw [fuelC]; simp; omega, ?_⟩
    rw [roundTK_head (j := j) (n := 0) hj (by decide), show roundTK C (mkTab sp49 lp49 sw49) 49 (loopOf C.P 49 3) 0 l49_3 [.i 0, k, i, n, m, r] = _ from t49_3_0 k i n m r]
    obtain ⟨q, hq⟩ : ∃ q : Nat, i.I = q := ⟨i.I.toNat, by omega⟩
    have e1 : [[D.i 0, D.i (q : Int), D.i 0]].take 1 = [[D.i 0, D.i (q : Int), D.i 0]] := rfl
    simp only [hq, h4, Int.toNat_natCast, e1, List.length_cons, List.length_nil, Nat.zero_add, List.take_length, bytes58] at h h2 h5 ⊢
    refine rd_if (fun hlt => ?_) fun hge => rd_out ?_
    · refine rd_need rfl (rd_false rfl (rd_dec (by omega) ?_))
      rw [wrap_succ (by omega)]
      have e2 : (k.I - (q : Int)).toNat = (k.I - ((q + 1 : Nat) : Int)).toNat + 1 := by omega
      refine rd_again ((need_yes ⟨rfl, by simp only [I_i]; omega, by simp only [I_i]; omega, h3, by simp only [I_i, L_l, List.length_append, List.length_cons, List.length_nil], by simp only [I_i, L_l, List.length_append, List.length_cons, List.length_nil]; omega⟩).trans ?_) (show (k.I - ((q + 1 : Nat) : Int)).toNat < (k.I - i.I).toNat by omega)
      rw [← h]
      simp only [L_l, I_i, Int.toNat_natCast, e2, extraF_snoc]
    · rw [← h]
      have e3 : (k.I - (q : Int)).toNat = 0 := by omega
      simp only [e3, extraF, List.append_nil, run_leaf]
  · rename_i j k i n
    obtain ⟨hp, h⟩ := need_some h
    rw [yes_iff] at hp
    obtain ⟨hj, h1, h2, h3⟩ := hp
    have hb := big_eq
    refine ⟨by rw [fuelC]; simp; omega, ?_⟩
    rw [roundTK_head (j := j) (n := 1) hj (by decide), show roundTK C (mkTab sp49 lp49 sw49) 49 (loopOf C.P 49 3) 0 l49_3 [.i 1, k, i, n] = _ from t49_3_1 k i n]
    simp only [h1] at h ⊢
    refine rd_pos (by omega) (rd_need rfl (rd_false rfl (rd_need rfl ?_)))
    have e2 : k.I.toNat = (k.I - 1).toNat + 1 := by omega
    refine rd_again ((need_yes ⟨rfl, by decide, by simp only [I_i]; exact h2, h3, rfl, by simp only [L_l, List.length_cons, List.length_nil]; show ((1 : Nat) : Int) + (k.I - 1) ≤ 5500; omega⟩).trans ?_) (show (k.I - 1).toNat < (k.I - i.I).toNat by omega)
    rw [← h]
    simp only [L_l, I_i, e2, extraF]
    rfl
  · cases h
theorem ok49 (n : Nat) : FnOK C (n + 2) 49 (mkF s49 G49) := by
  refine fn_ofS hC (sp := sp49) (lp := lp49) (sw := sw49) ⟨ok75 n, trivial⟩ trivial (by kernel_rfl) [3] (by kernel_rfl) (by kernel_rfl) (fun k hk L hL => by simp at hk; subst hk; cases hL; exact ok49_3 n) fun ds rr h => ?_
  unfold G49 at h
  split at h
  · rename_i n l
    obtain ⟨hp, h⟩ := need_some h
    rw [yes_iff] at hp
    have h1 := hp
    refine (congrArg T.run (t49 n l)).trans ?_
    rw [← h]
    have hp : netP n.I l.L := h1
    simp only [netP, netOk, Bool.and_eq_true, Lite.within_iff, decide_eq_true_eq] at h1
    obtain ⟨⟨h2, h3⟩, -⟩ := h1
    simp only [Int.toNat_zero, Int.sub_zero, Int.toNat_natCast]
    refine go_yes (by omega) (go_ite (fun c => go_yes ⟨by trivial, by trivial, by omega, by omega⟩ ?_) fun c => go_yes ⟨by trivial, by omega, by omega, by omega, by trivial, by omega⟩ ?_)
    · have e : l.L = [] := by simpa using c
      unfold allL
      rw [e]
      rfl
    · rfl
  · cases h
theorem ok55_3 (n : Nat) : LoopSim C (n + 0) 55 (loopOf C.P 55 3) (mkL l55_3 G55_3) := by
  refine loop_ofK hC (sp := sp55) (lp := lp55) (sw := sw55) trivial trivial 0 [] (by kernel_rfl) rfl (fun k hk => by cases hk) (by kernel_rfl) (fun ds => ((ds.getD 1 default).I).toNat + 1 - (if (ds.getD 0 default).I = 0 then (ds.getD 2 default).I.toNat else (ds.getD 3 default).I.toNat)) fun ds rr h => ?_
  unfold G55_3 at h
  split at h
  · rename_i j n m i r
    obtain ⟨hp, h⟩ := need_some h
    rw [yes_iff] at hp
    obtain ⟨hj, h1, h2, h3, h4, h5⟩ := hp
    have hb := big_eq
    refine ⟨by rw [fuelC]; simp; omega, ?_⟩
    rw [roundTK_head (j := j) (n := 1) hj (by decide), show roundTK C (mkTab sp55 lp55 sw55) 55 (loopOf C.P 55 3) 0 l55_3 [.i 1, n, m, i, r] = _ from t55_3_1 n m i r]
    obtain ⟨q, hq⟩ : ∃ q : Nat, i.I = q := ⟨i.I.toNat, by omega⟩
    have e1 : [[D.i 0, D.i (q : Int), D.i 0]].take 1 = [[D.i 0, D.i (q : Int), D.i 0]] := rfl
    simp only [hq, h4, Int.toNat_natCast, e1, List.length_cons, List.length_nil, Nat.zero_add, List.take_length, bytes58] at h h2 h5 ⊢
    refine rd_if (fun hlt => ?_) fun hge => rd_out ?_
    · refine rd_need rfl (rd_false rfl (rd_dec (by omega) ?_))
      rw [wrap_succ (by omega)]
      have e2 : (n.I - (q : Int)).toNat = (n.I - ((q + 1 : Nat) : Int)).toNat + 1 := by omega
      refine rd_again ((need_yes ⟨rfl, by simp only [I_i]; omega, by simp only [I_i]; omega, h3, by simp only [I_i, L_l, List.length_append, List.length_cons, List.length_nil], by simp only [I_i, L_l, List.length_append, List.length_cons, List.length_nil]; omega⟩).trans ?_) ?_
      · rw [← h]
        simp only [L_l, I_i, Int.toNat_natCast, e2, extraF_snoc]
      · show n.I.toNat + 1 - (if (1 : Int) = 0 then _ else ((q + 1 : Nat) : Int).toNat) < n.I.toNat + 1 - (if j.I = 0 then _ else i.I.toNat)
        rw [if_neg (by decide), if_neg (by omega)]
        omega
    · rw [← h]
      have e3 : (n.I - (q : Int)).toNat = 0 := by omega
      simp only [e3, extraF, List.append_nil, run_leaf]
  · rename_i j n i
    obtain ⟨hp, h⟩ := need_some h
    rw [yes_iff] at hp
    obtain ⟨hj, h1, h2, h3⟩ := hp
    have hb := big_eq
    refine ⟨by rw [fuelC]; simp; omega, ?_⟩
    rw [roundTK_head (j := j) (n := 0) hj (by decide), show roundTK C (mkTab sp55 lp55 sw55) 55 (loopOf C.P 55 3) 0 l55_3 [.i 0, n, i] = _ from t55_3_0 n i]
    simp only [h1] at h ⊢
    refine rd_pos (by omega) (rd_need rfl (rd_false rfl (rd_need rfl ?_)))
    have e2 : n.I.toNat = (n.I - 1).toNat + 1 := by omega
    refine rd_again ((need_yes ⟨rfl, by decide, by simp only [I_i]; exact h2, h3, rfl, by simp only [L_l, List.length_cons, List.length_nil]; show ((1 : Nat) : Int) + (n.I - 1) ≤ 5500; omega⟩).trans ?_) ?_
    · rw [← h]
      simp only [L_l, I_i, e2, extraF]
      rfl
    · show n.I.toNat + 1 - (if (1 : Int) = 0 then _ else (1 : Int).toNat) < n.I.toNat + 1 - (if j.I = 0 then i.I.toNat else _)
      rw [if_neg (by decide), if_pos hj, h1]
      show n.I.toNat + 1 - 1 < n.I.toNat + 1 - 0
      omega
  · cases h
theorem ok55 (n : Nat) : FnOK C (n + 1) 55 (mkF s55 G55) := by
  refine fn_ofS hC (sp := sp55) (lp := lp55) (sw := sw55) trivial trivial (by kernel_rfl) [3] (by kernel_rfl) (by kernel_rfl) (fun k hk L hL => by simp at hk; subst hk; cases hL; exact ok55_3 n) fun ds rr h => ?_
  unfold G55 at h
  split at h
  · rename_i n l
    obtain ⟨hp, h⟩ := need_some h
    rw [yes_iff] at hp
    have h1 := hp
    refine (congrArg T.run (t55 n l)).trans ?_
    rw [← h]
    have hp : netP n.I l.L := h1
    simp only [netP, netOk, Bool.and_eq_true, Lite.within_iff, decide_eq_true_eq] at h1
    obtain ⟨⟨h2, h3⟩, -⟩ := h1
    simp only [Int.toNat_zero, Int.sub_zero, Int.toNat_natCast, bytes58]
    refine go_ite (fun c => go_yes ⟨by trivial, by trivial, by omega, by omega⟩ ?_) fun c => go_dec (by omega) (go_yes ⟨by trivial, by omega, by omega, by omega, by trivial, by omega⟩ ?_)
    · have e : l.L = [] := by simpa using c
      unfold allL
      rw [e]
      rfl
    · rfl
  · cases h
theorem ok53_1 (n : Nat) : LoopSimK C (n + 0) 1 53 (loopOf C.P 53 1) (mkLK 1 l53_1 G53_1) := by
  refine loop_ofK hC (sp := sp53) (lp := lp53) (sw := sw53) trivial trivial 1 [] (by kernel_rfl) rfl (fun k hk => by cases hk) (by kernel_rfl) (fun ds => ((ds.getD 3 default).L.length : Int).toNat - (ds.getD 1 default).I.toNat) fun ds rr h => ?_
  unfold G53_1 at h
  split at h
  · rename_i m i j r
    obtain ⟨hp, h⟩ := need_some h
    rw [yes_iff] at hp
    obtain ⟨h1, h2, h3, h4, h5⟩ := hp
    have hb := big_eq
    refine ⟨by rw [fuelC]; simp; omega, ?_⟩
    rw [show roundTK C (mkTab sp53 lp53 sw53) 53 (loopOf C.P 53 1) 1 l53_1 [m, i, j, r] = _ from t53_1 m i j r]
    obtain ⟨q, hq⟩ : ∃ q : Nat, i.I = q := ⟨i.I.toNat, by omega⟩
    simp only [hq, h1, h5, Int.toNat_natCast, upd1, rg_def, rs_def] at h h3 h4 ⊢
    refine rd_if (fun hlt => ?_) fun hge => rd_out ?_
    · have e1 : ((r.L.length : Int) - 1 - (q : Int)).toNat = r.L.length - 1 - q := by omega
      simp only [e1, len_rs]
      refine rd_dec ⟨by omega, by omega⟩ (rd_dec (by omega) (rd_dec ⟨by omega, by omega⟩ (rd_dec (by omega) (rd_dec ⟨by omega, by omega⟩ (rd_dec (by omega) (rd_dec ⟨by omega, by omega⟩ (rd_dec (by omega) ?_)))))))
      rw [wrap_succ (by omega), show IntKind.i64.wrap ((r.L.length : Int) - 1 - (q : Int) - 1) = (r.L.length : Int) - 1 - ((q + 1 : Nat) : Int) from (wrap_id (by omega) (by omega)).trans (by omega)]
      refine rd_again ((need_yes ⟨by simp only [I_i, L_l, len_rs], by simp only [L_l, len_rs]; exact h2, by simp only [I_i]; omega, by simp only [I_i, L_l, len_rs]; omega, by simp only [I_i, L_l, len_rs]⟩).trans ?_) ?_
      · rw [← h]
        simp only [L_l, I_i, len_rs, Int.toNat_natCast]
        rw [show r.L.length - q = (r.L.length - (q + 1)) + 1 by omega]
        simp only [revR]
        rw [if_pos (by omega)]
      · show ((rs (rs r.L q (rg r.L (r.L.length - 1 - q))) (r.L.length - 1 - q) (rg r.L q)).length : Int).toNat - ((q + 1 : Nat) : Int).toNat < (r.L.length : Int).toNat - i.I.toNat
        simp only [len_rs]
        omega
    · rw [← h]
      cases hk : r.L.length - q with
      | zero => rfl
      | succ k =>
        simp only [revR]
        rw [if_neg (by omega)]
        rfl
  · cases h
theorem ok53 (n : Nat) : FnOKW C (n + 1) 53 (mkFW s53 G53) := by
  refine fn_ofW hC (sp := sp53) (lp := lp53) (sw := sw53) trivial trivial (by kernel_rfl) [1] (by kernel_rfl) (by kernel_rfl) (fun k hk L hL => by simp at hk; subst hk; cases hL; exact ok53_1 n) fun ds rr h => ?_
  unfold G53 at h
  split at h
  · rename_i m r
    obtain ⟨hp, h⟩ := need_some h
    rw [yes_iff] at hp
    obtain ⟨h1, h2⟩ := hp
    refine (congrArg T.run (t53 m r)).trans ?_
    rw [← h]
    have e : IntKind.i64.wrap ((m.I.toNat : Int) - 1) = (r.L.length : Int) - 1 - 0 := (wrap_id (by omega) (by omega)).trans (by omega)
    simp only [Int.toNat_zero, Nat.sub_zero]
    exact go_yes ⟨by omega, h2, by omega, by omega, e⟩ rfl
  · cases h
theorem rep_set : ∀ (i k : Nat) (a b : List D), (List.replicate i a ++ List.replicate (k + 1) b).set i a = List.replicate (i + 1) a ++ List.replicate k b
  | 0, k, a, b => by simp [List.replicate_succ]
  | i + 1, k, a, b => by
    have := rep_set i k a b
    rw [List.replicate_succ (n := i), List.replicate_succ (n := i + 1), List.cons_append, List.set_cons_succ, this]
    rfl
theorem ok68_12 (n : Nat) : LoopSimK C (n + 0) 1 68 (loopOf C.P 68 12) (mkLK 1 l68_12 G68_12) := by
  refine loop_ofK hC (sp := sp68) (lp := lp68) (sw := sw68) trivial trivial 1 [] (by kernel_rfl) rfl (fun k hk => by cases hk) (by kernel_rfl) (fun ds => ((ds.getD 8 default).I - (ds.getD 9 default).I).toNat) fun ds rr h => ?_
  unfold G68_12 at h
  split at h
  · rename_i n l m q r k i a b c t u
    obtain ⟨hp, h⟩ := need_some h
    rw [yes_iff] at hp
    obtain ⟨⟨g1, g2, g3, g4⟩, h2, h3, h4, h5, h6, h7, h8, h9, h10⟩ := hp
    have hb := big_eq
    refine ⟨by rw [fuelC]; simp; omega, ?_⟩
    rw [show roundTK C (mkTab sp68 lp68 sw68) 68 (loopOf C.P 68 12) 1 l68_12 [n, l, m, q, r, k, i, a, b, c, t, u] = _ from t68_12 n l m q r k i a b c t u]
    obtain ⟨j, hj⟩ : ∃ j : Nat, c.I = j := ⟨c.I.toNat, by omega⟩
    have hg : goodL n.I l.L := ⟨g1, g2, g3, g4⟩
    simp only [hj, h2, h3, h4, h5, Int.toNat_natCast, upd1, Nat.zero_add, Nat.reduceAdd] at h h6 h7 h10 ⊢
    refine rd_if (fun hlt => ?_) fun hge => rd_out ?_
    · have hjl : j < l.L.length := by omega
      obtain ⟨f1, f2, f3⟩ := g4 j hjl
      have e1 : ((l.L.getD j []).getD 0 default).I = lkF l.L j := rfl
      have e2 : ((l.L.getD j []).getD 1 default).I = lkT l.L j := rfl
      have e3 : ((l.L.getD j []).getD 2 default).I = lkW l.L j := rfl
      have h0 := room_rg h10 (by omega) (lkF l.L j).toNat
      simp only [e1, e2, e3, rg_def, rs_def]
      have w : IntKind.i64.wrap (rg t.L (lkF l.L j).toNat + lkW l.L j) = rg t.L (lkF l.L j).toNat + lkW l.L j := wrap_id (by omega) (by omega)
      rw [w, wrap_succ (by omega)]
      have e4 : l.L.length - j = (l.L.length - (j + 1)) + 1 := by omega
      rw [e4] at h
      simp only [passR] at h
      have hroom : room (stepR l.L j (t.L, u.L, r.I)).1 ((l.L.length : Int) - ((j + 1 : Nat) : Int)) := room_step hg hjl (s := (t.L, u.L, r.I)) h8 (by
        have : (l.L.length : Int) - ((j + 1 : Nat) : Int) + 1 = l.L.length - j := by omega
        rw [this]; exact h10)
      have hmu : ((l.L.length : Int) - ((j + 1 : Nat) : Int)).toNat < ((b.I) - c.I).toNat := by omega
      refine rd_dec ⟨by omega, by omega⟩ (rd_dec ⟨by omega, by omega⟩ (rd_dec (by omega) (rd_dec ⟨by omega, by omega⟩ (rd_dec (by omega) (rd_if (fun hgt => ?_) fun hle => ?_)))))
      · have hst : stepR l.L j (t.L, u.L, r.I) = (rs t.L (lkT l.L j).toNat (rg t.L (lkF l.L j).toNat + lkW l.L j), rs u.L (lkT l.L j).toNat j, lkT l.L j) := if_pos hgt
        rw [hst] at h hroom
        refine rd_dec ⟨by omega, by omega⟩ (rd_dec (by omega) (rd_dec ⟨by omega, by omega⟩ (rd_dec (by omega) (rd_again ((need_yes ⟨hg, by simp only [I_i]; omega, by simp only [I_i]; omega, rfl, rfl, by simp only [I_i]; omega, by simp only [I_i, L_l]; omega, by simp only [L_l, len_rs, I_i]; exact h8, by simp only [L_l, len_rs, I_i]; exact h9, hroom⟩).trans ?_) hmu))))
        simp only [L_l, I_i, Int.toNat_natCast]
        exact h
      · have hst : stepR l.L j (t.L, u.L, r.I) = (t.L, u.L, r.I) := if_neg hle
        rw [hst] at h hroom
        refine rd_again ((need_yes ⟨hg, by simp only [I_i]; omega, by simp only [I_i]; omega, rfl, rfl, by simp only [I_i]; omega, by simp only [I_i, L_l]; omega, h8, h9, hroom⟩).trans ?_) hmu
        simp only [L_l, I_i, Int.toNat_natCast]
        exact h
    · rw [← h]
      have e5 : l.L.length - j = 0 := by omega
      have e6 : ((n.I.toNat : Nat) : Int) = n.I := by omega
      simp only [e5, passR, run_leaf, e6]
  · cases h
theorem ok68_9 (n : Nat) : LoopSimK C (n + 0) 1 68 (loopOf C.P 68 9) (mkLK 1 l68_9 G68_9) := by
  refine loop_ofK hC (sp := sp68) (lp := lp68) (sw := sw68) trivial trivial 1 [12] (by kernel_rfl) (by kernel_rfl) (fun k hk L hL => by simp at hk; subst hk; cases hL; exact ok68_12 n) (by kernel_rfl) (fun ds => ((ds.getD 5 default).I - (ds.getD 6 default).I).toNat) fun ds rr h => ?_
  unfold G68_9 at h
  split at h
  · rename_i n l m q r k i t u
    obtain ⟨hp, h⟩ := need_some h
    rw [yes_iff] at hp
    obtain ⟨⟨g1, g2, g3, g4⟩, h2, h3, h4, h5, h6, h7, h8, h9⟩ := hp
    have hb := big_eq
    refine ⟨by rw [fuelC]; simp; omega, ?_⟩
    rw [show roundTK C (mkTab sp68 lp68 sw68) 68 (loopOf C.P 68 9) 1 l68_9 [n, l, m, q, r, k, i, t, u] = _ from t68_9 n l m q r k i t u]
    obtain ⟨j, hj⟩ : ∃ j : Nat, i.I = j := ⟨i.I.toNat, by omega⟩
    have hg : goodL n.I l.L := ⟨g1, g2, g3, g4⟩
    have e6 : ((n.I.toNat : Nat) : Int) = n.I := by omega
    simp only [hj, h2, h3, h4, Int.toNat_zero, Nat.sub_zero, Int.sub_zero, e6] at h h6 h9 ⊢
    refine rd_if (fun hlt => ?_) fun hge => rd_out ?_
    · have e7 : (n.I + 1 - (j : Int)).toNat = (n.I + 1 - ((j + 1 : Nat) : Int)).toNat + 1 := by omega
      rw [e7] at h
      simp only [roundsR] at h
      have hr1 : room t.L (l.L.length * (n.I + 1 - ((j + 1 : Nat) : Int)) + (l.L.length : Int)) := by
        have : (l.L.length : Int) * (n.I + 1 - ((j + 1 : Nat) : Int)) + l.L.length = l.L.length * (n.I + 1 - j) := by
          rw [show n.I + 1 - (j : Int) = (n.I + 1 - ((j + 1 : Nat) : Int)) + 1 by omega, Int.mul_add, Int.mul_one]
        rw [this]; exact h9
      have hr0 : room t.L (l.L.length : Int) := by
        obtain ⟨M, m1, m2⟩ := hr1
        have h0 := m1 0
        have : 0 ≤ (l.L.length : Int) * (n.I + 1 - ((j + 1 : Nat) : Int)) := Int.mul_nonneg (by omega) (by omega)
        exact ⟨M, m1, by rw [Int.mul_add] at m2; omega⟩
      have hr2 := room_pass hg l.L.length 0 (by omega) (s := (t.L, u.L, -1)) h7 hr1
      have hl2 := len_passR l.L l.L.length 0 (t.L, u.L, -1)
      refine rd_yes ⟨hg, by trivial, by trivial, by trivial, by trivial, by omega, by omega, h7, h8, hr0⟩ (rd_if (fun hc => rd_out ?_) fun hc => ?_)
      · rw [if_pos hc] at h
        exact h
      · rw [if_neg hc] at h
        rw [wrap_succ (by omega)]
        refine rd_again ((need_yes ⟨hg, by simp only [I_i], by simp only [I_i], by simp only [I_i], by simp only [I_i]; omega, by simp only [I_i]; omega, by simp only [L_l, I_i, hl2.1]; exact h7, by simp only [L_l, I_i, hl2.2]; exact h8, by simp only [L_l, I_i]; exact hr2⟩).trans ?_) (show (n.I + 1 - ((j + 1 : Nat) : Int)).toNat < (k.I - i.I).toNat by omega)
        simp only [L_l, I_i]
        exact h
    · rw [← h]
      have e5 : (n.I + 1 - (j : Int)).toNat = 0 := by omega
      simp only [e5, roundsR, run_leaf]
  · cases h
theorem ok68_3 (n : Nat) : LoopSimK C (n + 0) 1 68 (loopOf C.P 68 3) (mkLK 1 l68_3 G68_3) := by
  refine loop_ofK hC (sp := sp68) (lp := lp68) (sw := sw68) trivial trivial 1 [] (by kernel_rfl) rfl (fun k hk => by cases hk) (by kernel_rfl) (fun ds => ((ds.getD 4 default).I - (ds.getD 5 default).I).toNat) fun ds rr h => ?_
  unfold G68_3 at h
  split at h
  · rename_i n l m q k i t u
    obtain ⟨hp, h⟩ := need_some h
    rw [yes_iff] at hp
    obtain ⟨h1, h2, h0, h3, h4, h5, h6, h7⟩ := hp
    have hb := big_eq
    refine ⟨by rw [fuelC]; simp; omega, ?_⟩
    rw [show roundTK C (mkTab sp68 lp68 sw68) 68 (loopOf C.P 68 3) 1 l68_3 [n, l, m, q, k, i, t, u] = _ from t68_3 n l m q k i t u]
    obtain ⟨j, hj⟩ : ∃ j : Nat, i.I = j := ⟨i.I.toNat, by omega⟩
    have e6 : ((n.I.toNat : Nat) : Int) = n.I := by omega
    simp only [hj, h0, h3, h4, h7, Int.toNat_natCast, upd1, e6] at h h6 ⊢
    refine rd_if (fun hlt => ?_) fun hge => rd_out ?_
    · refine rd_dec ⟨by omega, by omega⟩ (rd_dec (by simp only [List.length_append, List.length_replicate]; omega) ?_)
      rw [wrap_succ (by omega)]
      have e7 : (n.I - (j : Int)).toNat = (n.I - ((j + 1 : Nat) : Int)).toNat + 1 := by omega
      rw [e7, rep_set]
      refine rd_again ((need_yes ⟨h1, h2, by simp only [I_i], by simp only [I_i], by simp only [I_i], by simp only [I_i]; omega, by simp only [I_i]; omega, by simp only [L_l, I_i, Int.toNat_natCast]⟩).trans ?_) (show (n.I - ((j + 1 : Nat) : Int)).toNat < (k.I - i.I).toNat by omega)
      rw [← h]
      rfl
    · rw [← h]
      have e5 : (n.I - (j : Int)).toNat = 0 := by omega
      have e8 : j = n.I.toNat := by omega
      rw [e5, e8]
      simp only [List.replicate_zero, List.append_nil, run_leaf]
  · cases h
theorem ok68 (n : Nat) : FnOKW C (n + 1) 68 (mkFW s68 G68) := by
  refine fn_ofW hC (sp := sp68) (lp := lp68) (sw := sw68) trivial trivial (by kernel_rfl) [3, 9] (by kernel_rfl) (by kernel_rfl) (fun k hk L hL => by
      simp at hk
      rcases hk with rfl | rfl <;> cases hL
      · exact ok68_3 n
      · exact ok68_9 n) fun ds rr h => ?_
  unfold G68 at h
  split at h
  · rename_i n l m t
    obtain ⟨hp, h⟩ := need_some h
    rw [yes_iff] at hp
    obtain ⟨⟨g1, g2, g3, g4⟩, h2, h3, h4⟩ := hp
    refine (congrArg T.run (t68 n l m t)).trans ?_
    have hg : goodL n.I l.L := ⟨g1, g2, g3, g4⟩
    have e6 : ((n.I.toNat : Nat) : Int) = n.I := by omega
    rw [← h]
    have hroom : room t.L ((l.L.length : Int) * (n.I + 1 - 0)) := by
      refine ⟨1099511627776, h4, ?_⟩
      have : (l.L.length : Int) * (n.I + 1 - 0) ≤ 5500 * 501 := Int.mul_le_mul (by omega) (by omega) (by omega) (by omega)
      omega
    have w : IntKind.i64.wrap (n.I + 1) = n.I + 1 := wrap_id (by omega) (by omega)
    have e7 : (n.I + 1 - 0).toNat = n.I.toNat + 1 := by omega
    simp only [Int.toNat_zero, h2, e6, w, List.length_replicate, bytes3, e7]
    refine go_dec ⟨by omega, by trivial, by omega, by omega⟩ (go_yes ⟨g1, g2, by trivial, by trivial, by trivial, by omega, by omega, by simp⟩ (go_yes ⟨hg, by trivial, by trivial, by trivial, by omega, by omega, h3, by trivial, hroom⟩ ?_))
    rfl
  · cases h
noncomputable def sp69 : SpL := [(55, mkF s55 G55)]
noncomputable def lp69 : LpL := [(3, mkLK 1 l69_3 G69_3), (7, mkLK 1 l69_7 G69_7)]
noncomputable def sw69 : SwL := []
noncomputable def tab69 : Tab := mkTab sp69 lp69 sw69
noncomputable def sp36 : SpL := []
noncomputable def lp36 : LpL := []
noncomputable def sw36 : SwL := [(69, mkFW s69 G69)]
noncomputable def tab36 : Tab := mkTab sp36 lp36 sw36
noncomputable def sp19 : SpL := [(36, mkF s36 G36)]
noncomputable def lp19 : LpL := []
noncomputable def sw19 : SwL := []
noncomputable def tab19 : Tab := mkTab sp19 lp19 sw19
noncomputable def sp76 : SpL := []
noncomputable def lp76 : LpL := []
noncomputable def sw76 : SwL := []
noncomputable def tab76 : Tab := mkTab sp76 lp76 sw76
noncomputable def sp50 : SpL := [(76, mkF s76 G76)]
noncomputable def lp50 : LpL := [(7, mkL l50_7 G50_7), (12, mkL l50_12 G50_12)]
noncomputable def sw50 : SwL := [(68, mkFW s68 G68), (53, mkFW s53 G53)]
noncomputable def tab50 : Tab := mkTab sp50 lp50 sw50
set_option linter.unusedVariables false
set_option maxRecDepth 100000
theorem t69 (a b c d : D) : fnTW C tab69 69 s69 [a, b, c, d] =
  T.need (yes (netP a.I b.L)) (T.need (yes ((↑(0 + 1) : Int) = (1 : Int) ∧ goodL a.I (allL a.I b.L) ∧ (c.I.toNat : Int) = a.I ∧ (↑(Int.toNat (↑(List.length (allL a.I b.L)) : Int)) : Int) = (↑(List.length (allL a.I b.L)) : Int) ∧ (0 : Int) ≤ (0 : Int) ∧ (0 : Int) ≤ a.I + (1 : Int) ∧ (d.L.length : Int) = a.I ∧ room d.L ((↑(List.length (allL a.I b.L)) : Int) * (a.I + (1 : Int) - (0 : Int))))) (T.ite (decide ((roundsR (allL a.I b.L) (Int.toNat (a.I + (1 : Int) - (0 : Int))) (d.L, [], (0 : Int))).snd.snd < (0 : Int))) (T.leaf [D.b (rg (roundsR (allL a.I b.L) (Int.toNat (a.I + (1 : Int) - (0 : Int))) (d.L, [], (0 : Int))).fst 0 == (0 : Int)), D.l (roundsR (allL a.I b.L) (Int.toNat (a.I + (1 : Int) - (0 : Int))) (d.L, [], (0 : Int))).fst]) (T.leaf [D.b false, D.l (roundsR (allL a.I b.L) (Int.toNat (a.I + (1 : Int) - (0 : Int))) (d.L, [], (0 : Int))).fst]))) := by kernel_rfl
theorem t69_3_1 (a b c d e f : D) : roundTK C tab69 69 (loopOf C.P 69 3) 1 l69_3 [.i 1, a, b, c, d, e, f] =
  T.ite (decide (d.I ≤ a.I)) (T.need (yes ((↑(0 + 1) : Int) = (1 : Int) ∧ goodL a.I f.L ∧ (b.I.toNat : Int) = a.I ∧ (c.I.toNat : Int) = (f.L.length : Int) ∧ (0 : Int) ≤ (0 : Int) ∧ (0 : Int) ≤ (f.L.length : Int) ∧ (e.L.length : Int) = a.I ∧ room e.L ((f.L.length : Int) - (0 : Int)))) (T.ite (true && decide ((passR f.L (Int.toNat (0 : Int)) (f.L.length - Int.toNat (0 : Int)) (e.L, [], (-1 : Int))).snd.snd < (0 : Int))) (T.need (decide ((0 : Int) ≤ (0 : Int) ∧ (0 : Int) < (a.I.toNat : Int))) (T.need (decide (Int.toNat (0 : Int) < List.length (passR f.L (Int.toNat (0 : Int)) (f.L.length - Int.toNat (0 : Int)) (e.L, [], (-1 : Int))).fst)) (T.leaf (Rd.out Ex.ret [D.b (D.I (List.getD (List.getD (passR f.L (Int.toNat (0 : Int)) (f.L.length - Int.toNat (0 : Int)) (e.L, [], (-1 : Int))).fst (Int.toNat (0 : Int)) []) 0 default) == (0 : Int)), D.l (passR f.L (Int.toNat (0 : Int)) (f.L.length - Int.toNat (0 : Int)) (e.L, [], (-1 : Int))).fst])))) (T.leaf (Rd.again [D.i 1, D.i a.I, D.i (a.I.toNat : Int), D.i (↑(Int.toNat (f.L.length : Int)) : Int), D.i (IntKind.wrap IntKind.i64 (d.I + (1 : Int))), D.l (passR f.L (Int.toNat (0 : Int)) (f.L.length - Int.toNat (0 : Int)) (e.L, [], (-1 : Int))).fst, D.l f.L])))) (T.leaf (Rd.out (Ex.exit 0) [D.l e.L])) := by kernel_rfl
theorem t69_7_1 (a b c d e f g h : D) : roundTK C tab69 69 (loopOf C.P 69 7) 1 l69_7 [.i 1, a, b, c, d, e, f, g, h] =
  T.ite (decide (f.I < (c.I.toNat : Int))) (T.need (decide ((0 : Int) ≤ f.I ∧ f.I < (c.I.toNat : Int))) (T.need (decide (f.I.toNat < h.L.length)) (T.need (decide ((0 : Int) ≤ D.I (List.getD (List.getD h.L f.I.toNat []) 0 default) ∧ D.I (List.getD (List.getD h.L f.I.toNat []) 0 default) < (b.I.toNat : Int))) (T.need (decide (Int.toNat (D.I (List.getD (List.getD h.L f.I.toNat []) 0 default)) < g.L.length)) (T.need (decide ((0 : Int) ≤ D.I (List.getD (List.getD h.L f.I.toNat []) (0 + 1) default) ∧ D.I (List.getD (List.getD h.L f.I.toNat []) (0 + 1) default) < (b.I.toNat : Int))) (T.need (decide (Int.toNat (D.I (List.getD (List.getD h.L f.I.toNat []) (0 + 1) default)) < g.L.length)) (T.ite (decide (IntKind.wrap IntKind.i64 (D.I (List.getD (List.getD g.L (Int.toNat (D.I (List.getD (List.getD h.L f.I.toNat []) 0 default))) []) 0 default) + D.I (List.getD (List.getD h.L f.I.toNat []) (0 + 1 + 1) default)) > D.I (List.getD (List.getD g.L (Int.toNat (D.I (List.getD (List.getD h.L f.I.toNat []) (0 + 1) default))) []) 0 default))) (T.need (decide ((0 : Int) ≤ D.I (List.getD (List.getD h.L f.I.toNat []) 0 default) ∧ D.I (List.getD (List.getD h.L f.I.toNat []) 0 default) < (b.I.toNat : Int))) (T.need (decide (Int.toNat (D.I (List.getD (List.getD h.L f.I.toNat []) 0 default)) < g.L.length)) (T.need (decide ((0 : Int) ≤ D.I (List.getD (List.getD h.L f.I.toNat []) (0 + 1) default) ∧ D.I (List.getD (List.getD h.L f.I.toNat []) (0 + 1) default) < (b.I.toNat : Int))) (T.need (decide (Int.toNat (D.I (List.getD (List.getD h.L f.I.toNat []) (0 + 1) default)) < g.L.length)) (T.leaf (Rd.again [D.i 1, D.i a.I, D.i (b.I.toNat : Int), D.i (c.I.toNat : Int), D.i d.I, D.b false, D.i (IntKind.wrap IntKind.i64 (f.I + (1 : Int))), D.l (List.set g.L (Int.toNat (D.I (List.getD (List.getD h.L f.I.toNat []) (0 + 1) default))) (updC (List.getD g.L (Int.toNat (D.I (List.getD (List.getD h.L f.I.toNat []) (0 + 1) default))) []) [D.i (IntKind.wrap IntKind.i64 (D.I (List.getD (List.getD g.L (Int.toNat (D.I (List.getD (List.getD h.L f.I.toNat []) 0 default))) []) 0 default) + D.I (List.getD (List.getD h.L f.I.toNat []) (0 + 1 + 1) default)))] 0 0 (List.length [K.int IntKind.i64]))), D.l h.L])))))) (T.leaf (Rd.again [D.i 1, D.i a.I, D.i (b.I.toNat : Int), D.i (c.I.toNat : Int), D.i d.I, D.b e.B, D.i (IntKind.wrap IntKind.i64 (f.I + (1 : Int))), D.l g.L, D.l h.L]))))))))) (T.leaf (Rd.out (Ex.exit 2) [D.i 1, D.i a.I, D.i (b.I.toNat : Int), D.i (c.I.toNat : Int), D.i d.I, D.b e.B, D.l g.L, D.l h.L])) := by kernel_rfl
theorem t36 (a b c : D) : fnT C tab36 36 s36 [a, b, c] =
  T.ite (List.isEmpty c.L) T.fail (T.need (decide (c.L.length ≤ 2 ^ 62 ∧ c.L.length * Try.prog.types[3].bytes ≤ 2 ^ 47)) (T.need (yes (netP a.I b.L ∧ (c.L.length : Int) = a.I ∧ (c.L.length : Int) = a.I ∧ bndR c.L (1099511627776 : Int))) (T.leaf [D.i 1, D.i (c.L.length : Int), D.b (refOk a.I b.L c.L), D.l (refR a.I b.L c.L).fst]))) := by kernel_rfl
theorem t19 (a b : D) : fnT C tab19 19 s19 [a, b] =
  T.need (decide ((0 : Int) ≤ a.I ∧ a.I = a.I ∧ a.I ≤ (2 : Int) ^ 40 ∧ (↑Try.prog.types[3].bytes : Int) * a.I ≤ (2 : Int) ^ 46)) (T.need (decide (List.length (List.replicate a.I.toNat [D.i 0]) ≤ List.length (List.replicate a.I.toNat [D.i 0]))) (T.need (yes (netP a.I b.L ∧ (↑(List.length (List.take (List.length (List.replicate a.I.toNat [D.i 0])) (List.replicate a.I.toNat [D.i 0]))) : Int) = a.I ∧ bndR (List.take (List.length (List.replicate a.I.toNat [D.i 0])) (List.replicate a.I.toNat [D.i 0])) (1099511627776 : Int))) (T.leaf [D.i 1, D.i (a.I.toNat : Int), D.b (refOk a.I b.L (List.take (List.length (List.replicate a.I.toNat [D.i 0])) (List.replicate a.I.toNat [D.i 0]))), D.l (refR a.I b.L (List.take (List.length (List.replicate a.I.toNat [D.i 0])) (List.replicate a.I.toNat [D.i 0]))).fst]))) := by kernel_rfl
theorem t76 (a b c d : D) : fnT C tab76 76 s76 [a, b, c, d] =
  T.need (decide ((0 : Int) ≤ a.I ∧ a.I < (b.L.length : Int))) (T.ite (decide (D.I (List.getD (List.getD b.L a.I.toNat []) 0 default) < (0 : Int))) (T.leaf [D.i (IntKind.wrap IntKind.i64 (IntKind.wrap IntKind.i64 ((d.L.length : Int) - c.I) + a.I))]) (T.need (decide ((0 : Int) ≤ a.I ∧ a.I < (b.L.length : Int))) (T.leaf [D.i (D.I (List.getD (List.getD b.L a.I.toNat []) 0 default))]))) := by kernel_rfl
theorem t50 (a b : D) : fnT C tab50 50 s50 [a, b] =
  T.need (decide ((0 : Int) ≤ a.I ∧ a.I = a.I ∧ a.I ≤ (2 : Int) ^ 40 ∧ (↑Try.prog.types[3].bytes : Int) * a.I ≤ (2 : Int) ^ 46)) (T.need (yes (goodL a.I b.L ∧ (↑(List.length (List.replicate a.I.toNat [D.i 0])) : Int) = a.I ∧ (↑(List.length (List.replicate a.I.toNat [D.i 0])) : Int) = a.I ∧ bndR (List.replicate a.I.toNat [D.i 0]) (1099511627776 : Int))) (T.ite (decide ((pushR a.I b.L (List.replicate a.I.toNat [D.i 0])).snd.snd < (0 : Int))) (T.leaf [D.i 0, D.i (↑(List.length (List.replicate a.I.toNat [D.i 0])) : Int), D.l (pushR a.I b.L (List.replicate a.I.toNat [D.i 0])).fst]) (T.need (yes (backOk a.I b.L (pushR a.I b.L (List.replicate a.I.toNat [D.i 0])).snd.fst ∧ (a.I.toNat : Int) = a.I ∧ (0 : Int) ≤ (pushR a.I b.L (List.replicate a.I.toNat [D.i 0])).snd.snd ∧ (pushR a.I b.L (List.replicate a.I.toNat [D.i 0])).snd.snd < a.I ∧ (0 : Int) ≤ (0 : Int) ∧ (0 : Int) ≤ IntKind.wrap IntKind.i64 (a.I + (1 : Int)) ∧ IntKind.wrap IntKind.i64 (a.I + (1 : Int)) ≤ (501 : Int))) (T.need (yes ((↑0 : Int) = (0 : Int) ∧ backOk a.I b.L (pushR a.I b.L (List.replicate a.I.toNat [D.i 0])).snd.fst ∧ (a.I.toNat : Int) = a.I ∧ (0 : Int) ≤ walk a.I b.L (pushR a.I b.L (List.replicate a.I.toNat [D.i 0])).snd.fst (Int.toNat (IntKind.wrap IntKind.i64 (a.I + (1 : Int)) - (0 : Int))) (pushR a.I b.L (List.replicate a.I.toNat [D.i 0])).snd.snd ∧ walk a.I b.L (pushR a.I b.L (List.replicate a.I.toNat [D.i 0])).snd.fst (Int.toNat (IntKind.wrap IntKind.i64 (a.I + (1 : Int)) - (0 : Int))) (pushR a.I b.L (List.replicate a.I.toNat [D.i 0])).snd.snd < a.I ∧ walk a.I b.L (pushR a.I b.L (List.replicate a.I.toNat [D.i 0])).snd.fst (Int.toNat (IntKind.wrap IntKind.i64 (a.I + (1 : Int)) - (0 : Int))) (pushR a.I b.L (List.replicate a.I.toNat [D.i 0])).snd.snd = walk a.I b.L (pushR a.I b.L (List.replicate a.I.toNat [D.i 0])).snd.fst (Int.toNat (IntKind.wrap IntKind.i64 (a.I + (1 : Int)) - (0 : Int))) (pushR a.I b.L (List.replicate a.I.toNat [D.i 0])).snd.snd ∧ reaches a.I b.L (pushR a.I b.L (List.replicate a.I.toNat [D.i 0])).snd.fst (predI a.I b.L (pushR a.I b.L (List.replicate a.I.toNat [D.i 0])).snd.fst (walk a.I b.L (pushR a.I b.L (List.replicate a.I.toNat [D.i 0])).snd.fst (Int.toNat (IntKind.wrap IntKind.i64 (a.I + (1 : Int)) - (0 : Int))) (pushR a.I b.L (List.replicate a.I.toNat [D.i 0])).snd.snd)) (walk a.I b.L (pushR a.I b.L (List.replicate a.I.toNat [D.i 0])).snd.fst (Int.toNat (IntKind.wrap IntKind.i64 (a.I + (1 : Int)) - (0 : Int))) (pushR a.I b.L (List.replicate a.I.toNat [D.i 0])).snd.snd))) (T.need (yes ((↑(Int.toNat (↑(List.length (circle a.I b.L (pushR a.I b.L (List.replicate a.I.toNat [D.i 0])).snd.fst (walk a.I b.L (pushR a.I b.L (List.replicate a.I.toNat [D.i 0])).snd.fst (Int.toNat (IntKind.wrap IntKind.i64 (a.I + (1 : Int)) - (0 : Int))) (pushR a.I b.L (List.replicate a.I.toNat [D.i 0])).snd.snd))) : Int)) : Int) = (↑(List.length (circle a.I b.L (pushR a.I b.L (List.replicate a.I.toNat [D.i 0])).snd.fst (walk a.I b.L (pushR a.I b.L (List.replicate a.I.toNat [D.i 0])).snd.fst (Int.toNat (IntKind.wrap IntKind.i64 (a.I + (1 : Int)) - (0 : Int))) (pushR a.I b.L (List.replicate a.I.toNat [D.i 0])).snd.snd))) : Int) ∧ List.length (circle a.I b.L (pushR a.I b.L (List.replicate a.I.toNat [D.i 0])).snd.fst (walk a.I b.L (pushR a.I b.L (List.replicate a.I.toNat [D.i 0])).snd.fst (Int.toNat (IntKind.wrap IntKind.i64 (a.I + (1 : Int)) - (0 : Int))) (pushR a.I b.L (List.replicate a.I.toNat [D.i 0])).snd.snd)) ≤ 1000000)) (T.leaf [D.i 2, D.i (↑(Int.toNat (↑(List.length (circle a.I b.L (pushR a.I b.L (List.replicate a.I.toNat [D.i 0])).snd.fst (walk a.I b.L (pushR a.I b.L (List.replicate a.I.toNat [D.i 0])).snd.fst (Int.toNat (IntKind.wrap IntKind.i64 (a.I + (1 : Int)) - (0 : Int))) (pushR a.I b.L (List.replicate a.I.toNat [D.i 0])).snd.snd))) : Int)) : Int), D.l (revR 0 (List.length (circle a.I b.L (pushR a.I b.L (List.replicate a.I.toNat [D.i 0])).snd.fst (walk a.I b.L (pushR a.I b.L (List.replicate a.I.toNat [D.i 0])).snd.fst (Int.toNat (IntKind.wrap IntKind.i64 (a.I + (1 : Int)) - (0 : Int))) (pushR a.I b.L (List.replicate a.I.toNat [D.i 0])).snd.snd))) (circle a.I b.L (pushR a.I b.L (List.replicate a.I.toNat [D.i 0])).snd.fst (walk a.I b.L (pushR a.I b.L (List.replicate a.I.toNat [D.i 0])).snd.fst (Int.toNat (IntKind.wrap IntKind.i64 (a.I + (1 : Int)) - (0 : Int))) (pushR a.I b.L (List.replicate a.I.toNat [D.i 0])).snd.snd)))])))))) := by kernel_rfl
theorem t50_7 (a b c d e f g : D) : roundT C tab50 50 (loopOf C.P 50 7) l50_7 [a, b, c, d, e, f, g] =
  T.ite (decide (c.I < b.I)) (T.need (decide (f.I.toNat ≤ g.L.length)) (T.need (yes (backOk d.I e.L (List.take f.I.toNat g.L) ∧ (0 : Int) ≤ a.I ∧ a.I < d.I)) (T.need (decide ((0 : Int) ≤ backI d.I e.L (List.take f.I.toNat g.L) a.I ∧ backI d.I e.L (List.take f.I.toNat g.L) a.I < (e.L.length : Int))) (T.leaf (Rd.again [D.i (D.I (List.getD (List.getD e.L (Int.toNat (backI d.I e.L (List.take f.I.toNat g.L) a.I)) []) 0 default)), D.i b.I, D.i (IntKind.wrap IntKind.i64 (c.I + (1 : Int))), D.i d.I, D.l e.L, D.i (f.I.toNat : Int), D.l g.L]))))) (T.leaf (Rd.out (Ex.exit 0) [D.i a.I, D.i d.I, D.l e.L, D.i (f.I.toNat : Int), D.l g.L])) := by kernel_rfl
theorem t50_12_0 (a b c d e f : D) : roundT C tab50 50 (loopOf C.P 50 12) l50_12 [.i 0, a, b, c, d, e, f] =
  T.ite true (T.need (decide (e.I.toNat ≤ f.L.length)) (T.need (yes (backOk c.I d.L (List.take e.I.toNat f.L) ∧ (0 : Int) ≤ a.I ∧ a.I < c.I)) (T.need true (T.ite false (T.need (decide (e.I.toNat ≤ f.L.length)) (T.need (yes (backOk c.I d.L (List.take e.I.toNat f.L) ∧ (0 : Int) ≤ a.I ∧ a.I < c.I)) (T.need (decide ((0 : Int) ≤ backI c.I d.L (List.take e.I.toNat f.L) a.I ∧ backI c.I d.L (List.take e.I.toNat f.L) a.I < (d.L.length : Int))) (T.leaf (Rd.again [D.i 0, D.i (D.I (List.getD (List.getD d.L (Int.toNat (backI c.I d.L (List.take e.I.toNat f.L) a.I)) []) 0 default)), D.i b.I, D.i c.I, D.l d.L, D.i (e.I.toNat : Int), D.l f.L]))))) (T.need true (T.need (decide (e.I.toNat ≤ f.L.length)) (T.need (yes (backOk c.I d.L (List.take e.I.toNat f.L) ∧ (0 : Int) ≤ a.I ∧ a.I < c.I)) (T.need (decide ((0 : Int) ≤ backI c.I d.L (List.take e.I.toNat f.L) a.I ∧ backI c.I d.L (List.take e.I.toNat f.L) a.I < (d.L.length : Int))) (T.leaf (Rd.again [D.i 1, D.i (D.I (List.getD (List.getD d.L (Int.toNat (backI c.I d.L (List.take e.I.toNat f.L) a.I)) []) 0 default)), D.i 1, D.i b.I, D.i c.I, D.l d.L, D.i (e.I.toNat : Int), D.l [[D.i (backI c.I d.L (List.take e.I.toNat f.L) a.I)]], D.l f.L])))))))))) (T.ite (a.I != b.I) (T.need (decide (e.I.toNat ≤ f.L.length)) (T.need (yes (backOk c.I d.L (List.take e.I.toNat f.L) ∧ (0 : Int) ≤ a.I ∧ a.I < c.I)) (T.need true (T.ite false (T.need (decide (e.I.toNat ≤ f.L.length)) (T.need (yes (backOk c.I d.L (List.take e.I.toNat f.L) ∧ (0 : Int) ≤ a.I ∧ a.I < c.I)) (T.need (decide ((0 : Int) ≤ backI c.I d.L (List.take e.I.toNat f.L) a.I ∧ backI c.I d.L (List.take e.I.toNat f.L) a.I < (d.L.length : Int))) (T.leaf (Rd.again [D.i 0, D.i (D.I (List.getD (List.getD d.L (Int.toNat (backI c.I d.L (List.take e.I.toNat f.L) a.I)) []) 0 default)), D.i b.I, D.i c.I, D.l d.L, D.i (e.I.toNat : Int), D.l f.L]))))) (T.need true (T.need (decide (e.I.toNat ≤ f.L.length)) (T.need (yes (backOk c.I d.L (List.take e.I.toNat f.L) ∧ (0 : Int) ≤ a.I ∧ a.I < c.I)) (T.need (decide ((0 : Int) ≤ backI c.I d.L (List.take e.I.toNat f.L) a.I ∧ backI c.I d.L (List.take e.I.toNat f.L) a.I < (d.L.length : Int))) (T.leaf (Rd.again [D.i 1, D.i (D.I (List.getD (List.getD d.L (Int.toNat (backI c.I d.L (List.take e.I.toNat f.L) a.I)) []) 0 default)), D.i 1, D.i b.I, D.i c.I, D.l d.L, D.i (e.I.toNat : Int), D.l [[D.i (backI c.I d.L (List.take e.I.toNat f.L) a.I)]], D.l f.L])))))))))) (T.leaf (Rd.out (Ex.exit 2) [D.i 0]))) := by kernel_rfl
theorem t50_12_1 (a b c d e f g h : D) : roundT C tab50 50 (loopOf C.P 50 12) l50_12 [.i 1, a, b, c, d, e, f, g, h] =
  T.ite ((b.I.toNat : Int) == (0 : Int)) (T.need (decide (f.I.toNat ≤ h.L.length)) (T.need (yes (backOk d.I e.L (List.take f.I.toNat h.L) ∧ (0 : Int) ≤ a.I ∧ a.I < d.I)) (T.need true (T.ite false (T.need (decide (f.I.toNat ≤ h.L.length)) (T.need (yes (backOk d.I e.L (List.take f.I.toNat h.L) ∧ (0 : Int) ≤ a.I ∧ a.I < d.I)) (T.need (decide ((0 : Int) ≤ backI d.I e.L (List.take f.I.toNat h.L) a.I ∧ backI d.I e.L (List.take f.I.toNat h.L) a.I < (e.L.length : Int))) (T.leaf (Rd.again [D.i 1, D.i (D.I (List.getD (List.getD e.L (Int.toNat (backI d.I e.L (List.take f.I.toNat h.L) a.I)) []) 0 default)), D.i (b.I.toNat : Int), D.i c.I, D.i d.I, D.l e.L, D.i (f.I.toNat : Int), D.l g.L, D.l h.L]))))) (T.need (decide (b.I.toNat ≤ g.L.length ∧ b.I.toNat + List.length (List.take (List.length [[D.i (backI d.I e.L (List.take f.I.toNat h.L) a.I)]]) [[D.i (backI d.I e.L (List.take f.I.toNat h.L) a.I)]]) ≤ 2 ^ 62 ∧ (b.I.toNat + List.length (List.take (List.length [[D.i (backI d.I e.L (List.take f.I.toNat h.L) a.I)]]) [[D.i (backI d.I e.L (List.take f.I.toNat h.L) a.I)]])) * Try.prog.types[3].bytes ≤ 2 ^ 47)) (T.need (decide (f.I.toNat ≤ h.L.length)) (T.need (yes (backOk d.I e.L (List.take f.I.toNat h.L) ∧ (0 : Int) ≤ a.I ∧ a.I < d.I)) (T.need (decide ((0 : Int) ≤ backI d.I e.L (List.take f.I.toNat h.L) a.I ∧ backI d.I e.L (List.take f.I.toNat h.L) a.I < (e.L.length : Int))) (T.leaf (Rd.again [D.i 1, D.i (D.I (List.getD (List.getD e.L (Int.toNat (backI d.I e.L (List.take f.I.toNat h.L) a.I)) []) 0 default)), D.i (↑(b.I.toNat + List.length (List.take (List.length [[D.i (backI d.I e.L (List.take f.I.toNat h.L) a.I)]]) [[D.i (backI d.I e.L (List.take f.I.toNat h.L) a.I)]])) : Int), D.i c.I, D.i d.I, D.l e.L, D.i (f.I.toNat : Int), D.l (List.take b.I.toNat g.L ++ List.take (List.length [[D.i (backI d.I e.L (List.take f.I.toNat h.L) a.I)]]) [[D.i (backI d.I e.L (List.take f.I.toNat h.L) a.I)]]), D.l h.L])))))))))) (T.ite (a.I != c.I) (T.need (decide (f.I.toNat ≤ h.L.length)) (T.need (yes (backOk d.I e.L (List.take f.I.toNat h.L) ∧ (0 : Int) ≤ a.I ∧ a.I < d.I)) (T.need true (T.ite false (T.need (decide (f.I.toNat ≤ h.L.length)) (T.need (yes (backOk d.I e.L (List.take f.I.toNat h.L) ∧ (0 : Int) ≤ a.I ∧ a.I < d.I)) (T.need (decide ((0 : Int) ≤ backI d.I e.L (List.take f.I.toNat h.L) a.I ∧ backI d.I e.L (List.take f.I.toNat h.L) a.I < (e.L.length : Int))) (T.leaf (Rd.again [D.i 1, D.i (D.I (List.getD (List.getD e.L (Int.toNat (backI d.I e.L (List.take f.I.toNat h.L) a.I)) []) 0 default)), D.i (b.I.toNat : Int), D.i c.I, D.i d.I, D.l e.L, D.i (f.I.toNat : Int), D.l g.L, D.l h.L]))))) (T.need (decide (b.I.toNat ≤ g.L.length ∧ b.I.toNat + List.length (List.take (List.length [[D.i (backI d.I e.L (List.take f.I.toNat h.L) a.I)]]) [[D.i (backI d.I e.L (List.take f.I.toNat h.L) a.I)]]) ≤ 2 ^ 62 ∧ (b.I.toNat + List.length (List.take (List.length [[D.i (backI d.I e.L (List.take f.I.toNat h.L) a.I)]]) [[D.i (backI d.I e.L (List.take f.I.toNat h.L) a.I)]])) * Try.prog.types[3].bytes ≤ 2 ^ 47)) (T.need (decide (f.I.toNat ≤ h.L.length)) (T.need (yes (backOk d.I e.L (List.take f.I.toNat h.L) ∧ (0 : Int) ≤ a.I ∧ a.I < d.I)) (T.need (decide ((0 : Int) ≤ backI d.I e.L (List.take f.I.toNat h.L) a.I ∧ backI d.I e.L (List.take f.I.toNat h.L) a.I < (e.L.length : Int))) (T.leaf (Rd.again [D.i 1, D.i (D.I (List.getD (List.getD e.L (Int.toNat (backI d.I e.L (List.take f.I.toNat h.L) a.I)) []) 0 default)), D.i (↑(b.I.toNat + List.length (List.take (List.length [[D.i (backI d.I e.L (List.take f.I.toNat h.L) a.I)]]) [[D.i (backI d.I e.L (List.take f.I.toNat h.L) a.I)]])) : Int), D.i c.I, D.i d.I, D.l e.L, D.i (f.I.toNat : Int), D.l (List.take b.I.toNat g.L ++ List.take (List.length [[D.i (backI d.I e.L (List.take f.I.toNat h.L) a.I)]]) [[D.i (backI d.I e.L (List.take f.I.toNat h.L) a.I)]]), D.l h.L])))))))))) (T.leaf (Rd.out (Ex.exit 2) [D.i 1, D.i (b.I.toNat : Int), D.l g.L]))) := by kernel_rfl
end Go.Proofs.Ytipbcpobnciccaa
namespace Go.Lite
structure Net where
  n : Nat
  m : Nat
  f : Nat → Nat
  t : Nat → Nat
  w : Nat → Int
structure Net.OK (E : Net) : Prop where
  f : ∀ i, i < E.m → E.f i < E.n
  t : ∀ i, i < E.m → E.t i < E.n
def Net.kept (E : Net) (p : Nat → Int) : Prop := ∀ i, i < E.m → p (E.f i) + E.w i ≤ p (E.t i)
def upd {α : Type} (x : Nat → α) (i : Nat) (v : α) : Nat → α := fun j => if j = i then v else x j
structure Rz where
  t : Nat → Int
  b : Nat → Int
  r : Int
  lst : Nat → Nat
  lv : Nat → Nat
  c : Nat
def Net.step (E : Net) (ρ i : Nat) (s : Rz) : Rz :=
  if s.t (E.f i) + E.w i > s.t (E.t i) then
    { t := upd s.t (E.t i) (s.t (E.f i) + E.w i), b := upd s.b (E.t i) i, r := E.t i, lst := upd s.lst (E.t i) (s.c + 1), lv := upd s.lv (E.t i) ρ, c := s.c + 1 }
  else s
def Net.pass (E : Net) (ρ : Nat) : Nat → Nat → Rz → Rz
  | _, 0, s => s
  | i, k + 1, s => E.pass ρ (i + 1) k (E.step ρ i s)
def Net.rounds (E : Net) : Nat → Nat → Rz → Rz
  | _, 0, s => s
  | ρ, k + 1, s => if (E.pass ρ 0 E.m { s with r := -1 }).r < 0 then E.pass ρ 0 E.m { s with r := -1 } else E.rounds (ρ + 1) k (E.pass ρ 0 E.m { s with r := -1 })
def Rz.start (t : Nat → Int) : Rz := ⟨t, fun _ => -1, -1, fun _ => 0, fun _ => 0, 0⟩
section
variable {E : Net}
theorem Net.step_le (ρ i : Nat) (s : Rz) (j : Nat) : s.t j ≤ (E.step ρ i s).t j := by
  unfold Net.step
  split
  · simp only [upd]; split
    · rename_i h1 h2; subst h2; omega
    · exact Int.le_refl _
  · exact Int.le_refl _
theorem Net.pass_le (ρ : Nat) : ∀ (k i : Nat) (s : Rz) (j : Nat), s.t j ≤ (E.pass ρ i k s).t j
  | 0, _, _, _ => Int.le_refl _
  | k + 1, i, s, j => Int.le_trans (Net.step_le ρ i s j) (Net.pass_le ρ k (i + 1) _ j)
theorem Net.rounds_le : ∀ (k ρ : Nat) (s : Rz) (j : Nat), s.t j ≤ (E.rounds ρ k s).t j
  | 0, _, _, _ => Int.le_refl _
  | k + 1, ρ, s, j => by
    have h1 := Net.pass_le (E := E) ρ E.m 0 { s with r := -1 } j
    simp only [Net.rounds]
    split
    · exact h1
    · exact Int.le_trans h1 (Net.rounds_le k (ρ + 1) _ j)
theorem Net.step_ub {p : Nat → Int} (hp : E.kept p) {ρ i : Nat} (hi : i < E.m) {s : Rz} (h : ∀ j, s.t j ≤ p j) (j : Nat) : (E.step ρ i s).t j ≤ p j := by
  unfold Net.step
  split
  · simp only [upd]; split
    · rename_i h2; subst h2
      have := hp i hi
      have := h (E.f i)
      omega
    · exact h j
  · exact h j
theorem Net.pass_ub {p : Nat → Int} (hp : E.kept p) {ρ : Nat} : ∀ (k i : Nat), i + k ≤ E.m → ∀ (s : Rz), (∀ j, s.t j ≤ p j) → ∀ j, (E.pass ρ i k s).t j ≤ p j
  | 0, _, _, _, h => h
  | k + 1, i, hk, s, h => Net.pass_ub hp k (i + 1) (by omega) _ (Net.step_ub hp (by omega) h)
theorem Net.rounds_ub {p : Nat → Int} (hp : E.kept p) : ∀ (k ρ : Nat) (s : Rz), (∀ j, s.t j ≤ p j) → ∀ j, (E.rounds ρ k s).t j ≤ p j
  | 0, _, _, h => h
  | k + 1, ρ, s, h => by
    have h1 := Net.pass_ub (ρ := ρ) hp E.m 0 (by omega) { s with r := -1 } h
    simp only [Net.rounds]
    split
    · exact h1
    · exact Net.rounds_ub hp k (ρ + 1) _ h1
theorem Net.step_r (ρ i : Nat) (s : Rz) : ((E.step ρ i s).r < 0 → E.step ρ i s = s) ∧ (s.r ≥ 0 → (E.step ρ i s).r ≥ 0) := by
  unfold Net.step
  split
  · exact ⟨fun h => by simp only at h; omega, fun _ => by simp only; omega⟩
  · exact ⟨fun _ => rfl, fun h => h⟩
theorem Net.pass_kept (ρ : Nat) : ∀ (k i : Nat) (s : Rz), (E.pass ρ i k s).r < 0 → E.pass ρ i k s = s ∧ ∀ j, i ≤ j → j < i + k → s.t (E.f j) + E.w j ≤ s.t (E.t j)
  | 0, _, _, _ => ⟨rfl, fun j h1 h2 => by omega⟩
  | k + 1, i, s, h => by
    simp only [Net.pass] at h ⊢
    obtain ⟨h1, h2⟩ := Net.pass_kept ρ k (i + 1) _ h
    rw [h1] at h ⊢
    have h3 := (Net.step_r ρ i s).1 h
    rw [h3] at h2 ⊢
    refine ⟨rfl, fun j h4 h5 => ?_⟩
    by_cases hj : j = i
    · subst hj
      unfold Net.step at h3
      split at h3
      · rename_i hgt
        have := congrArg Rz.c h3
        simp only at this
        omega
      · omega
    · exact h2 j (by omega) (by omega)
theorem Net.rounds_kept : ∀ (k ρ : Nat) (s : Rz), 0 < k → (E.rounds ρ k s).r < 0 → E.kept (E.rounds ρ k s).t
  | 0, _, _, h, _ => by omega
  | k + 1, ρ, s, _, h => by
    simp only [Net.rounds] at h ⊢
    split at h
    · rename_i hr
      rw [if_pos hr]
      obtain ⟨h1, h2⟩ := Net.pass_kept ρ E.m 0 _ hr
      rw [h1]
      exact fun i hi => h2 i (Nat.zero_le _) (by omega)
    · rename_i hr
      rw [if_neg hr]
      cases k with
      | zero => simp only [Net.rounds] at h; exact absurd h hr
      | succ k => exact Net.rounds_kept (k + 1) (ρ + 1) _ (by omega) h
structure Rz.Inv (E : Net) (s : Rz) (ρ i : Nat) : Prop where
  by_ : ∀ v, 0 ≤ s.b v → ∃ e : Nat, s.b v = e ∧ e < E.m ∧ E.t e = v ∧ s.t v ≤ s.t (E.f e) + E.w e ∧ ((s.lst v < s.lst (E.f e) ∨ E.f e = v) → s.t v < s.t (E.f e) + E.w e) ∧ s.lv v ≤ s.lv (E.f e) + 1
  none_ : ∀ v, s.b v < 0 → s.b v = -1 ∧ s.lst v = 0 ∧ s.lv v = 0
  lst_ : ∀ v, s.lst v ≤ s.c
  pos_ : ∀ v, 0 ≤ s.b v → 0 < s.lst v
  inj_ : ∀ u v, 0 ≤ s.b u → 0 ≤ s.b v → s.lst u = s.lst v → u = v
  lv_ : ∀ v, s.lv v ≤ ρ
  past_ : ∀ j, j < E.m → j < i → s.lv (E.f j) < ρ → s.t (E.f j) + E.w j ≤ s.t (E.t j)
  rest_ : ∀ j, j < E.m → s.lv (E.f j) + 1 < ρ → s.t (E.f j) + E.w j ≤ s.t (E.t j)
theorem Rz.Inv.step {s : Rz} {ρ i : Nat} (I : s.Inv E ρ i) (hi : i < E.m) : (E.step ρ i s).Inv E ρ (i + 1) := by
  unfold Net.step
  split
  · rename_i hgt
    have hlv : ρ ≤ s.lv (E.f i) + 1 := by
      apply Classical.byContradiction
      intro hn
      have := I.rest_ i hi (by omega)
      omega
    constructor
    · intro v hv
      by_cases e : v = E.t i
      · subst e
        refine ⟨i, by simp [upd], hi, rfl, ?_, ?_, ?_⟩
        · simp only [upd, if_true]
          split
          · rename_i h; rw [h] at hgt ⊢; omega
          · exact Int.le_refl _
        · simp only [upd, if_true]
          rintro (h | h)
          · split at h
            · omega
            · have := I.lst_ (E.f i); omega
          · rw [if_pos h, h] ; rw [h] at hgt; omega
        · simp only [upd, if_true]
          split
          · omega
          · exact hlv
      · simp only [upd, e, if_false] at hv ⊢
        obtain ⟨e', h1, h2, h3, h4, h5, h6⟩ := I.by_ v hv
        refine ⟨e', h1, h2, h3, ?_, ?_, ?_⟩
        · split
          · rename_i h; rw [h] at h4; omega
          · exact h4
        · intro h
          split at h
          · rename_i hf
            rw [if_pos hf, ]
            rw [hf] at h4
            omega
          · rename_i hf
            rw [if_neg hf]
            exact h5 h
        · split
          · have := I.lv_ v; omega
          · exact h6
    · intro v hv
      by_cases e : v = E.t i
      · subst e; simp only [upd, if_true] at hv; omega
      · simp only [upd, e, if_false] at hv ⊢
        exact I.none_ v hv
    · intro v
      simp only [upd]
      split
      · exact Nat.le_refl _
      · have := I.lst_ v; omega
    · intro v hv
      by_cases e : v = E.t i
      · subst e; simp [upd]
      · simp only [upd, e, if_false] at hv ⊢
        exact I.pos_ v hv
    · intro u v hu hv h
      by_cases eu : u = E.t i <;> by_cases ev : v = E.t i
      · rw [eu, ev]
      · simp only [upd, eu, ev, if_true, if_false] at h
        have := I.lst_ v; omega
      · simp only [upd, eu, ev, if_true, if_false] at h
        have := I.lst_ u; omega
      · simp only [upd, eu, ev, if_false] at hu hv h
        exact I.inj_ u v hu hv h
    · intro v
      simp only [upd]
      split
      · exact Nat.le_refl _
      · exact I.lv_ v
    · intro j hj hji hlt
      simp only [upd] at hlt ⊢
      by_cases ef : E.f j = E.t i
      · rw [if_pos ef] at hlt; omega
      · rw [if_neg ef] at hlt ⊢
        by_cases hje : j = i
        · subst hje; simp
        · have := I.past_ j hj (by omega) hlt
          split
          · rename_i h; rw [h] at this; omega
          · exact this
    · intro j hj hlt
      simp only [upd] at hlt ⊢
      by_cases ef : E.f j = E.t i
      · rw [if_pos ef] at hlt; omega
      · rw [if_neg ef] at hlt ⊢
        have := I.rest_ j hj hlt
        split
        · rename_i h; rw [h] at this; omega
        · exact this
  · rename_i hle
    exact ⟨I.by_, I.none_, I.lst_, I.pos_, I.inj_, I.lv_, fun j hj hji hlt => by
      by_cases e : j = i
      · subst e; omega
      · exact I.past_ j hj (by omega) hlt, I.rest_⟩
theorem Rz.Inv.pass {ρ : Nat} : ∀ (k i : Nat), i + k ≤ E.m → ∀ {s : Rz}, s.Inv E ρ i → (E.pass ρ i k s).Inv E ρ (i + k)
  | 0, _, _, _, I => I
  | k + 1, i, hk, s, I => by
    have := Rz.Inv.pass k (i + 1) (by omega) (I.step (by omega))
    rw [show i + 1 + k = i + (k + 1) by omega] at this
    exact this
theorem Rz.Inv.next {s : Rz} {ρ : Nat} (I : s.Inv E ρ E.m) : s.Inv E (ρ + 1) 0 :=
  ⟨I.by_, I.none_, I.lst_, I.pos_, I.inj_, fun v => Nat.le_trans (I.lv_ v) (by omega), fun j _ h => by omega, fun j hj h => I.past_ j hj hj (by omega)⟩
theorem Rz.Inv.clear {s : Rz} {ρ i : Nat} (I : s.Inv E ρ i) (r : Int) : Rz.Inv E { s with r := r } ρ i := ⟨I.by_, I.none_, I.lst_, I.pos_, I.inj_, I.lv_, I.past_, I.rest_⟩
end
def iter (g : Nat → Nat) : Nat → Nat → Nat
  | 0, x => x
  | k + 1, x => iter g k (g x)
theorem iter_add (g : Nat → Nat) : ∀ (a b x : Nat), iter g (a + b) x = iter g b (iter g a x)
  | 0, b, x => by rw [Nat.zero_add]; rfl
  | a + 1, b, x => by rw [show a + 1 + b = (a + b) + 1 by omega]; exact iter_add g a b (g x)
theorem iter_succ (g : Nat → Nat) (k x : Nat) : iter g (k + 1) x = g (iter g k x) := iter_add g k 1 x
theorem iter_lt {g : Nat → Nat} {n : Nat} (hg : ∀ x, x < n → g x < n) : ∀ (k : Nat) {x : Nat}, x < n → iter g k x < n
  | 0, _, h => h
  | k + 1, _, h => iter_lt hg k (hg _ h)
theorem exists_rep : ∀ {n : Nat} (s : Nat → Nat), (∀ k, k ≤ n → s k < n) → ∃ a c, a < c ∧ c ≤ n ∧ s a = s c
  | 0, s, hs => by have := hs 0 (Nat.le_refl _); omega
  | n + 1, s, hs => by
    by_cases h : ∃ a, a ≤ n ∧ s a = s (n + 1)
    · obtain ⟨a, h1, h2⟩ := h
      exact ⟨a, n + 1, by omega, Nat.le_refl _, h2⟩
    · have hne : ∀ k, k ≤ n → s k ≠ s (n + 1) := fun k hk e => h ⟨k, hk, e⟩
      have hv := hs (n + 1) (Nat.le_refl _)
      obtain ⟨a, c, h1, h2, h3⟩ := exists_rep (n := n) (fun k => if s k > s (n + 1) then s k - 1 else s k) (fun k hk => by
        have h4 := hne k hk
        have h5 := hs k (by omega)
  
        split <;> omega)
      refine ⟨a, c, h1, by omega, ?_⟩
      have h4 := hne a (by omega)
      have h5 := hne c h2
      split at h3 <;> split at h3 <;> omega
theorem iter_cycle {n : Nat} {g : Nat → Nat} (hg : ∀ x, x < n → g x < n) {x : Nat} (hx : x < n) {K : Nat} (hK : n ≤ K + 1) : ∃ k, 0 < k ∧ k ≤ n ∧ iter g k (iter g K x) = iter g K x := by
  obtain ⟨a, c, hac, hcn, e⟩ := exists_rep (n := n) (fun k => iter g k x) (fun k _ => iter_lt hg k hx)
  refine ⟨c - a, by omega, by omega, ?_⟩
  have h1 : iter g (c - a) (iter g a x) = iter g a x := by rw [← iter_add, show a + (c - a) = c by omega]; exact e.symm
  rw [show K = a + (K - a) by omega, iter_add, ← iter_add, Nat.add_comm, iter_add, h1]
def sumTo (x : Nat → Int) : Nat → Int
  | 0 => 0
  | k + 1 => sumTo x k + x k
theorem sumTo_le {x y : Nat → Int} : ∀ {k : Nat}, (∀ j, j < k → x j ≤ y j) → sumTo x k ≤ sumTo y k
  | 0, _ => Int.le_refl _
  | k + 1, h => by
    have h1 := sumTo_le (k := k) fun j hj => h j (by omega)
    have h2 := h k (by omega)
    simp only [sumTo]; omega
theorem sumTo_lt {x y : Nat → Int} : ∀ {k j : Nat}, j < k → (∀ i, i < k → x i ≤ y i) → x j < y j → sumTo x k < sumTo y k
  | 0, _, hj, _, _ => by omega
  | k + 1, j, hj, h, hl => by
    simp only [sumTo]
    by_cases e : j = k
    · subst e
      have := sumTo_le (k := j) fun i hi => h i (by omega)
      omega
    · have := sumTo_lt (k := k) (j := j) (by omega) (fun i hi => h i (by omega)) hl
      have := h k (by omega)
      omega
theorem sumTo_tele (x : Nat → Int) : ∀ (k : Nat), sumTo (fun j => x j - x (j + 1)) k = x 0 - x k
  | 0 => by simp [sumTo]
  | k + 1 => by rw [sumTo, sumTo_tele x k]; omega
theorem exists_max (x : Nat → Nat) : ∀ (k : Nat), 0 < k → ∃ j, j < k ∧ ∀ i, i < k → x i ≤ x j
  | 0, h => by omega
  | 1, _ => ⟨0, by omega, fun i hi => by rw [show i = 0 by omega]; exact Nat.le_refl _⟩
  | k + 2, _ => by
    obtain ⟨j, h1, h2⟩ := exists_max x (k + 1) (by omega)
    by_cases h : x j ≤ x (k + 1)
    · refine ⟨k + 1, by omega, fun i hi => ?_⟩
      by_cases e : i = k + 1
      · rw [e]; exact Nat.le_refl _
      · exact Nat.le_trans (h2 i (by omega)) h
    · refine ⟨j, by omega, fun i hi => ?_⟩
      by_cases e : i = k + 1
      · rw [e]; omega
      · exact h2 i (by omega)
def Net.back (_ : Net) (b : Nat → Int) (d : Nat → Nat) (v : Nat) : Nat := if b v < 0 then d v else (b v).toNat
section
variable {E : Net} {s : Rz} {ρ : Nat} {d : Nat → Nat}
theorem Rz.Inv.walk_lv (I : s.Inv E ρ E.m) {v : Nat} : ∀ {k : Nat}, k < s.lv v → 0 < s.lv (iter (fun x => E.f (E.back s.b d x)) k v) ∧ s.lv v ≤ s.lv (iter (fun x => E.f (E.back s.b d x)) k v) + k
  | 0, h => ⟨h, by simp [iter]⟩
  | k + 1, h => by
    obtain ⟨h1, h2⟩ := I.walk_lv (k := k) (v := v) (by omega)
    rw [iter_succ]
    generalize iter (fun x => E.f (E.back s.b d x)) k v = u at h1 h2 ⊢
    have hb : 0 ≤ s.b u := by
      apply Classical.byContradiction
      intro hn
      have := (I.none_ u (by omega)).2.2
      omega
    obtain ⟨e, e1, _, _, _, _, e6⟩ := I.by_ u hb
    have hbk : E.back s.b d u = e := by unfold Net.back; rw [if_neg (by omega), e1]; rfl
    rw [hbk]
    omega
theorem Rz.Inv.circle (I : s.Inv E ρ E.m) (hE : E.OK) (hd : ∀ v, v < E.n → d v < E.m) {v : Nat} (hv : v < E.n) (hlv : s.lv v = ρ) (hρ : ρ = E.n + 1) {K : Nat} (hK : K = E.n + 1) :
    ∃ k, 0 < k ∧ k ≤ E.n ∧ iter (fun x => E.f (E.back s.b d x)) k (iter (fun x => E.f (E.back s.b d x)) K v) = iter (fun x => E.f (E.back s.b d x)) K v ∧
      ∀ j, 0 ≤ s.b (iter (fun x => E.f (E.back s.b d x)) j (iter (fun x => E.f (E.back s.b d x)) K v)) := by
  have hg : ∀ x, x < E.n → E.f (E.back s.b d x) < E.n := fun x hx => by
    refine hE.f _ ?_
    unfold Net.back
    split
    · exact hd x hx
    · rename_i h
      obtain ⟨e, e1, e2, _⟩ := I.by_ x (by omega)
      rw [e1]; exact e2
  have hpos : ∀ k, k ≤ E.n → 0 ≤ s.b (iter (fun x => E.f (E.back s.b d x)) k v) := fun k hk => by
    apply Classical.byContradiction
    intro hn
    have h1 := (I.none_ _ (show s.b (iter (fun x => E.f (E.back s.b d x)) k v) < 0 by omega)).2.2
    have := (I.walk_lv (d := d) (v := v) (k := k) (by omega)).1
    omega
  obtain ⟨k, k1, k2, k3⟩ := iter_cycle hg hv (K := K) (by omega)
  refine ⟨k, k1, k2, k3, fun j => ?_⟩
  obtain ⟨a, c, hac, hcn, e⟩ := exists_rep (n := E.n) (fun k => iter (fun x => E.f (E.back s.b d x)) k v) (fun k _ => iter_lt hg k hv)
  -- everything from a on repeats within a .. c - 1
  have hall : ∀ i, ∃ k, k < c ∧ iter (fun x => E.f (E.back s.b d x)) i v = iter (fun x => E.f (E.back s.b d x)) k v := by
    intro i
    induction i with
    | zero => exact ⟨0, by omega, rfl⟩
    | succ i ih =>
      obtain ⟨k, h1, h2⟩ := ih
      by_cases hk : k + 1 < c
      · exact ⟨k + 1, hk, by rw [iter_succ, iter_succ, h2]⟩
      · refine ⟨a, hac, ?_⟩
        have h3 : iter (fun x => E.f (E.back s.b d x)) (k + 1) v = E.f (E.back s.b d (iter (fun x => E.f (E.back s.b d x)) k v)) := iter_succ _ _ _
        rw [iter_succ, h2, ← h3, show k + 1 = c by omega]; exact e.symm
  rw [← iter_add]
  obtain ⟨i, h1, h2⟩ := hall (K + j)
  rw [h2]
  exact hpos i (by omega)
theorem Rz.Inv.weighs (I : s.Inv E ρ E.m) {y k : Nat} (hk : 0 < k) (hy : iter (fun x => E.f (E.back s.b d x)) k y = y) (hb : ∀ j, 0 ≤ s.b (iter (fun x => E.f (E.back s.b d x)) j y)) :
    0 < sumTo (fun j => E.w (E.back s.b d (iter (fun x => E.f (E.back s.b d x)) j y))) k := by
  have key : ∀ j, s.t (iter (fun x => E.f (E.back s.b d x)) j y) - s.t (iter (fun x => E.f (E.back s.b d x)) (j + 1) y) ≤ E.w (E.back s.b d (iter (fun x => E.f (E.back s.b d x)) j y)) ∧
      ((s.lst (iter (fun x => E.f (E.back s.b d x)) j y) < s.lst (iter (fun x => E.f (E.back s.b d x)) (j + 1) y) ∨ iter (fun x => E.f (E.back s.b d x)) (j + 1) y = iter (fun x => E.f (E.back s.b d x)) j y) →
        s.t (iter (fun x => E.f (E.back s.b d x)) j y) - s.t (iter (fun x => E.f (E.back s.b d x)) (j + 1) y) < E.w (E.back s.b d (iter (fun x => E.f (E.back s.b d x)) j y))) := by
    intro j
    rw [iter_succ]
    have h0 := hb j
    generalize iter (fun x => E.f (E.back s.b d x)) j y = u at h0 ⊢
    obtain ⟨e, e1, _, _, e4, e5, _⟩ := I.by_ u h0
    have hbk : E.back s.b d u = e := by unfold Net.back; rw [if_neg (by omega), e1]; rfl
    rw [hbk]
    exact ⟨by omega, fun h => by have := e5 h; omega⟩
  have htele := sumTo_tele (fun j => s.t (iter (fun x => E.f (E.back s.b d x)) j y)) k
  rw [hy] at htele
  have hz : sumTo (fun j => s.t (iter (fun x => E.f (E.back s.b d x)) j y) - s.t (iter (fun x => E.f (E.back s.b d x)) (j + 1) y)) k = 0 := by rw [htele]; simp [iter]
  rw [← hz]
  obtain ⟨j, hj, hmax⟩ := exists_max (fun j => s.lst (iter (fun x => E.f (E.back s.b d x)) j y)) k hk
  -- the one ahead of the latest
  have hcase : ∃ i, i < k ∧ iter (fun x => E.f (E.back s.b d x)) (i + 1) y = iter (fun x => E.f (E.back s.b d x)) j y := by
    cases j with
    | zero => exact ⟨k - 1, by omega, by rw [show k - 1 + 1 = k by omega, hy]; rfl⟩
    | succ j => exact ⟨j, by omega, rfl⟩
  obtain ⟨i, hi, he⟩ := hcase
  refine sumTo_lt hi (fun i _ => (key i).1) ((key i).2 ?_)
  have h1 := hmax i hi
  rw [he]
  by_cases h2 : s.lst (iter (fun x => E.f (E.back s.b d x)) i y) = s.lst (iter (fun x => E.f (E.back s.b d x)) j y)
  · exact .inr (I.inj_ _ _ (hb i) (hb j) h2).symm
  · exact .inl (by omega)
end
end Go.Lite
namespace Go.Proofs.Ytipbcpobnciccaa
open Go.Lite
set_option maxRecDepth 100000
theorem len_allL (n : Int) (l : List (List D)) : (allL n l).length = l.length + n.toNat := by simp [allL, len_extraF]
theorem allL_get1 {n : Int} {l : List (List D)} {i : Nat} (h : i < l.length) : (allL n l).getD i [] = l.getD i [] := by
  simp only [allL, List.getD_eq_getElem?_getD]
  rw [List.getElem?_append_left h]
theorem allL_get2 {n : Int} {l : List (List D)} {i : Nat} (h : i < n.toNat) : (allL n l).getD (l.length + i) [] = [.i 0, .i (i : Int), .i 0] := by
  have := extraF_get (i := 0) (k := n.toNat) (j := i) h
  simp only [List.getD_eq_getElem?_getD, Nat.zero_add] at this
  simp only [allL, List.getD_eq_getElem?_getD]
  rw [List.getElem?_append_right (by omega), Nat.add_sub_cancel_left]
  exact this
theorem net_of {n : Int} {l : List (List D)} (h : netP n l) : 1 ≤ n ∧ n ≤ 500 ∧ l.length ≤ 5000 ∧ ∀ i, i < l.length → (0 ≤ lkF l i ∧ lkF l i < n) ∧ (0 ≤ lkT l i ∧ lkT l i < n) ∧ (-1000000 ≤ lkW l i ∧ lkW l i ≤ 1000000) := by
  simp only [netP, netOk, Bool.and_eq_true, Lite.within_iff, decide_eq_true_eq, allFrom_iff, linkOk, linkP] at h
  obtain ⟨⟨⟨h1, h2⟩, h3⟩, h4⟩ := h
  refine ⟨h1, h2, h3, fun i hi => ?_⟩
  have := h4 i (Nat.zero_le _) (by omega)
  omega
theorem good_all {n : Int} {l : List (List D)} (h : netP n l) : goodL n (allL n l) := by
  obtain ⟨h1, h2, h3, h4⟩ := net_of h
  refine ⟨h1, h2, by rw [len_allL]; omega, fun i hi => ?_⟩
  rw [len_allL] at hi
  by_cases hl : i < l.length
  · have := h4 i hl
    unfold lkF lkT lkW at this ⊢
    rw [allL_get1 hl]
    exact this
  · obtain ⟨j, rfl⟩ : ∃ j, i = l.length + j := ⟨i - l.length, by omega⟩
    unfold lkF lkT lkW
    rw [allL_get2 (by omega)]
    simp only [ix, List.getD_cons_zero, List.getD_cons_succ, D.I]
    omega
theorem passR_fst (l : List (List D)) : ∀ (k i : Nat) (s s' : RSt), s.1 = s'.1 → (passR l i k s).1 = (passR l i k s').1
  | 0, _, _, _, h => h
  | k + 1, i, s, s', h => by
    refine passR_fst l k (i + 1) _ _ ?_
    unfold stepR
    rw [h]
    split
    · rfl
    · exact h
theorem stepR_pos {n : Int} {l : List (List D)} (hl : goodL n l) {i : Nat} (hi : i < l.length) {s : RSt} (h : 0 ≤ s.2.2) : 0 ≤ (stepR l i s).2.2 := by
  unfold stepR
  split
  · exact (hl.2.2.2 i hi).2.1.1
  · exact h
theorem passR_pos {n : Int} {l : List (List D)} (hl : goodL n l) : ∀ (k i : Nat), i + k ≤ l.length → ∀ (s : RSt), 0 ≤ s.2.2 → 0 ≤ (passR l i k s).2.2
  | 0, _, _, _, h => h
  | k + 1, i, hk, s, h => passR_pos hl k (i + 1) (by omega) _ (stepR_pos hl (by omega) h)
theorem passR_neg {n : Int} {l : List (List D)} (hl : goodL n l) : ∀ (k i : Nat), i + k ≤ l.length → ∀ (s s' : RSt), s.1 = s'.1 → (s.2.2 < 0 ↔ s'.2.2 < 0) → ((passR l i k s).2.2 < 0 ↔ (passR l i k s').2.2 < 0)
  | 0, _, _, _, _, _, h => h
  | k + 1, i, hk, s, s', h1, h2 => by
    refine passR_neg hl k (i + 1) (by omega) _ _ ?_ ?_
    · unfold stepR
      rw [h1]
      split
      · rfl
      · exact h1
    · unfold stepR
      rw [h1]
      split
      · simp only
      · exact h2
theorem rounds_same {n : Int} {l : List (List D)} (hl : goodL n l) : ∀ (k : Nat) (s s' : RSt), s.1 = s'.1 → (s.2.2 < 0 ↔ s'.2.2 < 0) → (roundsR l k s).1 = (roundsR l k s').1 ∧ ((roundsR l k s).2.2 < 0 ↔ (roundsR l k s').2.2 < 0)
  | 0, _, _, h1, h2 => ⟨h1, h2⟩
  | k + 1, s, s', h1, h2 => by
    have e1 := passR_fst l l.length 0 (s.1, s.2.1, -1) (s'.1, s'.2.1, -1) h1
    have e2 := passR_neg hl l.length 0 (by omega) (s.1, s.2.1, -1) (s'.1, s'.2.1, -1) h1 (by simp)
    simp only [roundsR]
    by_cases hc : (passR l 0 l.length (s.1, s.2.1, -1)).2.2 < 0
    · rw [if_pos hc, if_pos (e2.1 hc)]
      exact ⟨e1, e2⟩
    · rw [if_neg hc, if_neg (fun h => hc (e2.2 h))]
      exact rounds_same hl k _ _ e1 e2
theorem rounds_last {l : List (List D)} (s s' : RSt) (h1 : s.1 = s'.1) {n : Int} (hl : goodL n l) (k : Nat) : (roundsR l (k + 1) s).1 = (roundsR l (k + 1) s').1 ∧ ((roundsR l (k + 1) s).2.2 < 0 ↔ (roundsR l (k + 1) s').2.2 < 0) := by
  have e1 := passR_fst l l.length 0 (s.1, s.2.1, -1) (s'.1, s'.2.1, -1) h1
  have e2 := passR_neg hl l.length 0 (by omega) (s.1, s.2.1, -1) (s'.1, s'.2.1, -1) h1 (by simp)
  simp only [roundsR]
  by_cases hc : (passR l 0 l.length (s.1, s.2.1, -1)).2.2 < 0
  · rw [if_pos hc, if_pos (e2.1 hc)]
    exact ⟨e1, e2⟩
  · rw [if_neg hc, if_neg (fun h => hc (e2.2 h))]
    exact rounds_same hl k _ _ e1 e2
def NoteOk (n : Int) (l : List (List D)) (s : RSt) : Prop := (s.2.1.length : Int) = n ∧ (∀ j : Nat, (j : Int) < n → -1 ≤ rg s.2.1 j ∧ rg s.2.1 j < l.length) ∧ -1 ≤ s.2.2 ∧ s.2.2 < n
theorem note_step {n : Int} {l : List (List D)} (hl : goodL n l) {i : Nat} (hi : i < l.length) {s : RSt} (h : NoteOk n l s) : NoteOk n l (stepR l i s) := by
  obtain ⟨h1, h2, h3, h4⟩ := h
  obtain ⟨-, ⟨g1, g2⟩, -⟩ := hl.2.2.2 i hi
  unfold stepR
  split
  · refine ⟨by simp only [len_rs]; exact h1, fun j hj => ?_, by simp only; omega, by simp only; omega⟩
    simp only
    rw [rg_rs (by omega)]
    split
    · omega
    · exact h2 j hj
  · exact ⟨h1, h2, h3, h4⟩
theorem note_pass {n : Int} {l : List (List D)} (hl : goodL n l) : ∀ (k i : Nat), i + k ≤ l.length → ∀ {s : RSt}, NoteOk n l s → NoteOk n l (passR l i k s)
  | 0, _, _, _, h => h
  | k + 1, i, hk, _, h => note_pass hl k (i + 1) (by omega) (note_step hl (by omega) h)
theorem note_rounds {n : Int} {l : List (List D)} (hl : goodL n l) : ∀ (k : Nat) {s : RSt}, NoteOk n l s → NoteOk n l (roundsR l k s)
  | 0, _, h => h
  | k + 1, s, h => by
    have h1 := note_pass hl l.length 0 (by omega) (s := (s.1, s.2.1, -1)) ⟨h.1, h.2.1, by simp, by have := hl.1; simp only; omega⟩
    simp only [roundsR]
    split
    · exact h1
    · exact note_rounds hl k h1
theorem note_push {n : Int} {l : List (List D)} (hl : goodL n l) (t : List (List D)) : NoteOk n l (pushR n l t) := by
  have hn := hl.1
  refine note_rounds hl _ ⟨by simp only [List.length_replicate]; omega, fun j hj => ?_, by simp, by simp only; omega⟩
  simp only
  rw [rg_rep (by omega)]
  omega
theorem back_push {n : Int} {l : List (List D)} (hl : goodL n l) (hn : n ≤ l.length) (t : List (List D)) : backOk n l (pushR n l t).2.1 := ⟨hl, (note_push hl t).1, hn, (note_push hl t).2.1⟩
theorem back_rng {n : Int} {l b : List (List D)} (h : backOk n l b) {v : Int} (h0 : 0 ≤ v) (h1 : v < n) : 0 ≤ backI n l b v ∧ backI n l b v < l.length := by
  obtain ⟨hl, hb, hn, hr⟩ := h
  have := hr v.toNat (by omega)
  unfold backI
  split <;> omega
theorem pred_rng {n : Int} {l b : List (List D)} (h : backOk n l b) {v : Int} (h0 : 0 ≤ v) (h1 : v < n) : 0 ≤ predI n l b v ∧ predI n l b v < n := by
  have := back_rng h h0 h1
  exact (h.1.2.2.2 (backI n l b v).toNat (by omega)).1
theorem walk_rng {n : Int} {l b : List (List D)} (h : backOk n l b) : ∀ (k : Nat) {v : Int}, 0 ≤ v → v < n → 0 ≤ walk n l b k v ∧ walk n l b k v < n
  | 0, _, h0, h1 => ⟨h0, h1⟩
  | k + 1, _, h0, h1 => walk_rng h k (pred_rng h h0 h1).1 (pred_rng h h0 h1).2
theorem ok69_7 (n : Nat) : LoopSimK C (n + 1) 1 69 (loopOf C.P 69 7) (mkLK 1 l69_7 G69_7) := by
  refine loop_ofK hC (sp := sp69) (lp := lp69) (sw := sw69) ⟨ok55 n, trivial⟩ trivial 1 [] (by kernel_rfl) rfl (fun k hk => by cases hk) (by kernel_rfl) (fun ds => ((ds.getD 3 default).I - (ds.getD 6 default).I).toNat) fun ds rr h => ?_
  unfold G69_7 at h
  split at h
  · rename_i j n m q r s i t a
    obtain ⟨hp, h⟩ := need_some h
    rw [yes_iff] at hp
    obtain ⟨hj, ⟨g1, g2, g3, g4⟩, h2, h3, h4, h5, h6, h7⟩ := hp
    have hb := big_eq
    refine ⟨by rw [fuelC]; simp; omega, ?_⟩
    rw [roundTK_head (j := j) (n := 1) hj (by decide), show roundTK C (mkTab sp69 lp69 sw69) 69 (loopOf C.P 69 7) 1 l69_7 [.i 1, n, m, q, r, s, i, t, a] = _ from t69_7_1 n m q r s i t a]
    obtain ⟨c, hc⟩ : ∃ c : Nat, i.I = c := ⟨i.I.toNat, by omega⟩
    have hg : goodL n.I a.L := ⟨g1, g2, g3, g4⟩
    have e0 : ((n.I.toNat : Nat) : Int) = n.I := by omega
    simp only [hc, h2, h3, Int.toNat_natCast, upd1, Nat.zero_add, Nat.reduceAdd, e0] at h h4 h5 h7 ⊢
    refine rd_if (fun hlt => ?_) fun hge => rd_out ?_
    · have hjl : c < a.L.length := by omega
      obtain ⟨f1, f2, f3⟩ := g4 c hjl
      have e1 : ((a.L.getD c []).getD 0 default).I = lkF a.L c := rfl
      have e2 : ((a.L.getD c []).getD 1 default).I = lkT a.L c := rfl
      have e3 : ((a.L.getD c []).getD 2 default).I = lkW a.L c := rfl
      have h0 := room_rg h7 (by omega) (lkF a.L c).toNat
      simp only [e1, e2, e3, rg_def, rs_def]
      have w : IntKind.i64.wrap (rg t.L (lkF a.L c).toNat + lkW a.L c) = rg t.L (lkF a.L c).toNat + lkW a.L c := wrap_id (by omega) (by omega)
      rw [w, wrap_succ (by omega)]
      have e4 : a.L.length - c = (a.L.length - (c + 1)) + 1 := by omega
      rw [e4] at h
      simp only [passR] at h
      have hroom : room (stepR a.L c (t.L, [], -1)).1 ((a.L.length : Int) - ((c + 1 : Nat) : Int)) := room_step hg hjl (s := (t.L, [], -1)) h6 (by
        have : (a.L.length : Int) - ((c + 1 : Nat) : Int) + 1 = a.L.length - c := by omega
        rw [this]; exact h7)
      have hmu : ((a.L.length : Int) - ((c + 1 : Nat) : Int)).toNat < (q.I - i.I).toNat := by omega
      refine rd_dec ⟨by omega, by omega⟩ (rd_dec (by omega) (rd_dec ⟨by omega, by omega⟩ (rd_dec (by omega) (rd_dec ⟨by omega, by omega⟩ (rd_dec (by omega) (rd_if (fun hgt => ?_) fun hle => ?_))))))
      · have hst : stepR a.L c (t.L, [], -1) = (rs t.L (lkT a.L c).toNat (rg t.L (lkF a.L c).toNat + lkW a.L c), rs [] (lkT a.L c).toNat c, lkT a.L c) := if_pos hgt
        simp only [hst] at h hroom
        refine rd_dec ⟨by omega, by omega⟩ (rd_dec (by omega) (rd_dec ⟨by omega, by omega⟩ (rd_dec (by omega) (rd_again ((need_yes ⟨rfl, hg, by simp only [I_i], by simp only [I_i, L_l], by simp only [I_i]; omega, by simp only [I_i, L_l]; omega, by simp only [L_l, len_rs, I_i]; exact h6, hroom⟩).trans ?_) hmu))))
        rw [← h]
        simp only [L_l, I_i, B_b, Int.toNat_natCast, Bool.false_and, run_leaf]
        have hpos := passR_pos hg (a.L.length - (c + 1)) (c + 1) (by omega) (rs t.L (lkT a.L c).toNat (rg t.L (lkF a.L c).toNat + lkW a.L c), rs [] (lkT a.L c).toNat c, lkT a.L c) f2.1
        rw [decide_eq_false (show ¬ (passR a.L (c + 1) (a.L.length - (c + 1)) (rs t.L (lkT a.L c).toNat (rg t.L (lkF a.L c).toNat + lkW a.L c), rs [] (lkT a.L c).toNat c, lkT a.L c)).2.2 < 0 by omega), Bool.and_false,
          passR_fst a.L (a.L.length - (c + 1)) (c + 1) (rs t.L (lkT a.L c).toNat (rg t.L (lkF a.L c).toNat + lkW a.L c), [], -1) (rs t.L (lkT a.L c).toNat (rg t.L (lkF a.L c).toNat + lkW a.L c), rs [] (lkT a.L c).toNat c, lkT a.L c) rfl]
      · have hst : stepR a.L c (t.L, [], -1) = (t.L, [], -1) := if_neg hle
        simp only [hst] at h hroom
        refine rd_again ((need_yes ⟨rfl, hg, by simp only [I_i], by simp only [I_i, L_l], by simp only [I_i]; omega, by simp only [I_i, L_l]; omega, h6, hroom⟩).trans ?_) hmu
        simp only [L_l, I_i, B_b, Int.toNat_natCast]
        exact h
    · rw [← h]
      have e5 : a.L.length - c = 0 := by omega
      simp [e5, passR, run_leaf]
  · cases h
theorem ok69_3 (n : Nat) : LoopSimK C (n + 1) 1 69 (loopOf C.P 69 3) (mkLK 1 l69_3 G69_3) := by
  refine loop_ofK hC (sp := sp69) (lp := lp69) (sw := sw69) ⟨ok55 n, trivial⟩ trivial 1 [7] (by kernel_rfl) (by kernel_rfl) (fun k hk L hL => by simp at hk; subst hk; cases hL; exact ok69_7 n) (by kernel_rfl) (fun ds => ((ds.getD 1 default).I + 1 - (ds.getD 4 default).I).toNat) fun ds rr h => ?_
  unfold G69_3 at h
  split at h
  · rename_i j n m q i t a
    obtain ⟨hp, h⟩ := need_some h
    rw [yes_iff] at hp
    obtain ⟨hj, ⟨g1, g2, g3, g4⟩, h2, h3, h4, h5, h6, h7⟩ := hp
    have hb := big_eq
    refine ⟨by rw [fuelC]; simp; omega, ?_⟩
    rw [roundTK_head (j := j) (n := 1) hj (by decide), show roundTK C (mkTab sp69 lp69 sw69) 69 (loopOf C.P 69 3) 1 l69_3 [.i 1, n, m, q, i, t, a] = _ from t69_3_1 n m q i t a]
    obtain ⟨c, hc⟩ : ∃ c : Nat, i.I = c := ⟨i.I.toNat, by omega⟩
    have hg : goodL n.I a.L := ⟨g1, g2, g3, g4⟩
    have e0 : ((n.I.toNat : Nat) : Int) = n.I := by omega
    simp only [hc, h2, h3, Int.toNat_natCast, Int.toNat_zero, Nat.sub_zero, Int.sub_zero, e0, Bool.true_and, rg_def] at h h4 h5 h7 ⊢
    refine rd_if (fun hlt => ?_) fun hge => rd_out ?_
    · have e7 : (n.I + 1 - (c : Int)).toNat = (n.I + 1 - ((c + 1 : Nat) : Int)).toNat + 1 := by omega
      rw [e7] at h
      simp only [roundsR] at h
      have hr1 : room t.L (a.L.length * (n.I + 1 - ((c + 1 : Nat) : Int)) + (a.L.length : Int)) := by
        have : (a.L.length : Int) * (n.I + 1 - ((c + 1 : Nat) : Int)) + a.L.length = a.L.length * (n.I + 1 - c) := by
          rw [show n.I + 1 - (c : Int) = (n.I + 1 - ((c + 1 : Nat) : Int)) + 1 by omega, Int.mul_add, Int.mul_one]
        rw [this]; exact h7
      have hr0 : room t.L (a.L.length : Int) := by
        obtain ⟨M, m1, m2⟩ := hr1
        have h0 := m1 0
        have : 0 ≤ (a.L.length : Int) * (n.I + 1 - ((c + 1 : Nat) : Int)) := Int.mul_nonneg (by omega) (by omega)
        exact ⟨M, m1, by rw [Int.mul_add] at m2; omega⟩
      have hr2 := room_pass hg a.L.length 0 (by omega) (s := (t.L, [], -1)) h6 hr1
      have hl2 := len_passR a.L a.L.length 0 (t.L, [], -1)
      refine rd_yes ⟨by trivial, hg, by trivial, by trivial, by omega, by omega, h6, hr0⟩ (rd_if (fun hcc => ?_) fun hcc => ?_)
      · rw [if_pos hcc, run_ite, if_pos (decide_eq_true hcc)] at h
        refine rd_dec ⟨by omega, by omega⟩ (rd_dec (by rw [hl2.1]; simp only; omega) (rd_out h))
      · rw [if_neg hcc] at h
        rw [wrap_succ (by omega)]
        refine rd_again ((need_yes ⟨rfl, hg, by simp only [I_i], by simp only [I_i, L_l], by simp only [I_i]; omega, by simp only [I_i]; omega, by simp only [L_l, I_i, hl2.1]; exact h6, by simp only [L_l, I_i]; exact hr2⟩).trans ?_) (show (n.I + 1 - ((c + 1 : Nat) : Int)).toNat < (n.I + 1 - i.I).toNat by omega)
        rw [← h]
        simp only [L_l, I_i]
        have hs := rounds_same hg (n.I + 1 - ((c + 1 : Nat) : Int)).toNat ((passR a.L 0 a.L.length (t.L, [], -1)).1, [], 0) (passR a.L 0 a.L.length (t.L, [], -1)) rfl ⟨fun h => absurd h (show ¬ ((0 : Int) < 0) by decide), fun h => absurd h hcc⟩
        simp only [hs.1]
        refine go_if (fun h9 => ?_) fun h9 => ?_
        · rw [run_ite, if_pos (decide_eq_true (hs.2.1 h9))]
        · rw [run_ite, if_neg (fun h8 => h9 (hs.2.2 (of_decide_eq_true h8)))]
    · rw [← h]
      have e5 : (n.I + 1 - (c : Int)).toNat = 0 := by omega
      simp only [e5, roundsR, run_leaf, run_ite]
      rfl
  · cases h
theorem bnd_zeros (n : Int) {M : Int} (h : 0 ≤ M) : bndR (zeros n) M := fun j => by
  unfold zeros
  by_cases hj : j < n.toNat
  · rw [rg_rep hj]; omega
  · rw [rg_ge (by simp only [List.length_replicate]; omega)]; omega
theorem len_zeros (n : Int) : (zeros n).length = n.toNat := by simp [zeros]
theorem len_revR : ∀ (k i : Nat) (r : List (List D)), (revR i k r).length = r.length
  | 0, _, _ => rfl
  | k + 1, i, r => by
    simp only [revR]
    split
    · rw [len_revR k (i + 1), len_rs, len_rs]
    · rfl
theorem walk_iter {n : Int} {l b : List (List D)} (h : backOk n l b) : ∀ (k : Nat) {v : Int}, 0 ≤ v → v < n → (walk n l b k v).toNat = iter (fun x => (predI n l b x).toNat) k v.toNat
  | 0, _, _, _ => rfl
  | k + 1, v, h0, h1 => by
    have e : ((v.toNat : Nat) : Int) = v := by omega
    simp only [walk, iter, e]
    exact walk_iter h k (pred_rng h h0 h1).1 (pred_rng h h0 h1).2
theorem reaches_walk {n : Int} {l b : List (List D)} (h : backOk n l b) {v : Int} (h0 : 0 ≤ v) (h1 : v < n) (K : Nat) (hK : n.toNat ≤ K + 1) : ∃ k, 0 < k ∧ k ≤ n.toNat ∧ walk n l b k (walk n l b K v) = walk n l b K v := by
  have hg : ∀ x, x < n.toNat → (predI n l b x).toNat < n.toNat := fun x hx => by have := pred_rng h (v := x) (by omega) (by omega); omega
  obtain ⟨k, k0, k1, k2⟩ := iter_cycle hg (x := v.toNat) (by omega) hK
  refine ⟨k, k0, k1, ?_⟩
  have hw := walk_rng h K h0 h1
  have hw2 := walk_rng h k hw.1 hw.2
  have e1 := walk_iter h K h0 h1
  have e2 := walk_iter h k hw.1 hw.2
  rw [e1, k2, ← e1] at e2
  omega
theorem reaches_pred {n : Int} {l b : List (List D)} (h : backOk n l b) {v : Int} (h0 : 0 ≤ v) (h1 : v < n) (K : Nat) (hK : n.toNat ≤ K + 1) : reaches n l b (predI n l b (walk n l b K v)) (walk n l b K v) := by
  obtain ⟨k, k0, k1, k2⟩ := reaches_walk h h0 h1 K hK
  have := h.1.2.1
  obtain ⟨j, rfl⟩ : ∃ j, k = j + 1 := ⟨k - 1, by omega⟩
  exact ⟨j, by omega, k2⟩
theorem stepsTo_add (n : Int) (l b : List (List D)) (e : Int) : ∀ (f k : Nat) (v : Int), stepsTo n l b v e (k + 1) f = stepsTo n l b v e k f + 1
  | 0, _, _ => rfl
  | f + 1, k, v => by
    simp only [stepsTo]
    split
    · rfl
    · exact stepsTo_add n l b e f (k + 1) _
theorem stepsTo_fuel (n : Int) (l b : List (List D)) (e : Int) : ∀ (f j k : Nat) (v : Int), j ≤ f → walk n l b j v = e → stepsTo n l b v e k (f + 1) = stepsTo n l b v e k f
  | 0, j, k, v, hj, hw => by
    obtain rfl : j = 0 := by omega
    have : v = e := hw
    simp [stepsTo, this]
  | f + 1, j, k, v, hj, hw => by
    show (if v = e then k else stepsTo n l b (predI n l b v) e (k + 1) (f + 1)) = (if v = e then k else stepsTo n l b (predI n l b v) e (k + 1) f)
    by_cases hc : v = e
    · rw [if_pos hc, if_pos hc]
    · rw [if_neg hc, if_neg hc]
      match j, hw with
      | 0, hw => exact absurd hw hc
      | j + 1, hw => exact stepsTo_fuel n l b e f j (k + 1) _ (by omega) hw
theorem stepsTo_le (n : Int) (l b : List (List D)) (e : Int) : ∀ (f k : Nat) (v : Int), stepsTo n l b v e k f ≤ k + f
  | 0, _, _ => Nat.le_refl _
  | f + 1, k, v => by
    simp only [stepsTo]
    split
    · omega
    · have := stepsTo_le n l b e f (k + 1) (predI n l b v); omega
theorem dist_le (n : Int) (l b : List (List D)) (v e : Int) : dist n l b v e ≤ 501 := by have := stepsTo_le n l b e 501 0 v; unfold dist; omega
theorem dist_zero {n : Int} {l b : List (List D)} {v e : Int} (h : v = e) : dist n l b v e = 0 := by
  unfold dist
  rw [stepsTo, if_pos h]
theorem dist_succ {n : Int} {l b : List (List D)} {v e : Int} (h : reaches n l b v e) (hne : v ≠ e) : dist n l b v e = dist n l b (predI n l b v) e + 1 ∧ reaches n l b (predI n l b v) e := by
  obtain ⟨j, hj, hw⟩ := h
  match j, hw with
  | 0, hw => exact absurd hw hne
  | j + 1, hw =>
    refine ⟨?_, j, by omega, hw⟩
    unfold dist
    rw [stepsTo_fuel n l b e 500 j 0 _ (by omega) hw, stepsTo, if_neg hne, stepsTo_add]
theorem proof_len (n : Int) (l : List (List D)) : (proofR n l).length ≤ 502 := by
  unfold proofR
  simp only [len_revR, circle, List.length_cons]
  have : ∀ (b : List (List D)) (k : Nat) (v : Int), (chainF n l b k v).length = k := by
    intro b k
    induction k with
    | zero => intro v; rfl
    | succ k ih => intro v; simp [chainF, ih]
  rw [this]
  have := dist_le n l (pushR n l (zeros n)).2.1 (predI n l (pushR n l (zeros n)).2.1 (walk n l (pushR n l (zeros n)).2.1 (n.toNat + 1) (pushR n l (zeros n)).2.2)) (walk n l (pushR n l (zeros n)).2.1 (n.toNat + 1) (pushR n l (zeros n)).2.2)
  omega
theorem ok69 (n : Nat) : FnOKW C (n + 2) 69 (mkFW s69 G69) := by
  refine fn_ofW hC (sp := sp69) (lp := lp69) (sw := sw69) ⟨ok55 n, trivial⟩ trivial (by kernel_rfl) [3] (by kernel_rfl) (by kernel_rfl) (fun k hk L hL => by simp at hk; subst hk; cases hL; exact ok69_3 n) fun ds rr h => ?_
  unfold G69 at h
  split at h
  · rename_i n l m t
    obtain ⟨hp, h⟩ := need_some h
    rw [yes_iff] at hp
    obtain ⟨h1, h2, h3, h4⟩ := hp
    refine (congrArg T.run (t69 n l m t)).trans ?_
    have hb := big_eq
    have hg := good_all h1
    obtain ⟨k1, k2, k3, k4⟩ := net_of h1
    have e7 : (n.I + 1 - 0).toNat = n.I.toNat + 1 := by omega
    have hla := len_allL n.I l.L
    have hroom : room t.L (((allL n.I l.L).length : Int) * (n.I + 1 - 0)) := by
      refine ⟨1099511627776, h4, ?_⟩
      have : ((allL n.I l.L).length : Int) * (n.I + 1 - 0) ≤ 5500 * 501 := Int.mul_le_mul (by omega) (by omega) (by omega) (by omega)
      omega
    rw [← h]
    refine go_yes h1 (go_yes ⟨by trivial, hg, by omega, by omega, by omega, by omega, h3, hroom⟩ ?_)
    simp only [e7]
    refine go_if (fun hc => ?_) fun hc => ?_
    · have : refOk n.I l.L t.L = (rg (refR n.I l.L t.L).1 0 == 0) := by unfold refOk; rw [decide_eq_true (show (refR n.I l.L t.L).2.2 < 0 from hc), Bool.true_and]
      rw [this]; rfl
    · have : refOk n.I l.L t.L = false := by unfold refOk; rw [decide_eq_false (show ¬ (refR n.I l.L t.L).2.2 < 0 from hc), Bool.false_and]
      rw [this]; rfl
  · cases h
theorem ok36 (n : Nat) : FnOK C (n + 3) 36 (mkF s36 G36) := by
  refine fn_ofS hC (sp := sp36) (lp := lp36) (sw := sw36) trivial ⟨ok69 n, trivial⟩ (by kernel_rfl) [] (by kernel_rfl) rfl (fun k hk => by cases hk) fun ds rr h => ?_
  unfold G36 at h
  split at h
  · rename_i n l t
    obtain ⟨hp, h⟩ := need_some h
    rw [yes_iff] at hp
    obtain ⟨h1, h2, h3⟩ := hp
    refine (congrArg T.run (t36 n l t)).trans ?_
    have hb := big_eq
    obtain ⟨k1, k2, k3, k4⟩ := net_of h1
    have e : t.L.isEmpty = false := by
      have : t.L ≠ [] := fun hh => by rw [hh] at h2; simp at h2; omega
      simpa using this
    have e3 : Try.prog.types[3].bytes = 8 := by have := bytes3; omega
    rw [← h]
    refine go_false e (go_dec ⟨by omega, by rw [e3]; omega⟩ (go_yes ⟨h1, h2, h2, h3⟩ ?_))
    rw [h2]
  · cases h
theorem ok19 (n : Nat) : FnOK C (n + 4) 19 (mkF s19 G19) := by
  refine fn_ofS hC (sp := sp19) (lp := lp19) (sw := sw19) ⟨ok36 n, trivial⟩ trivial (by kernel_rfl) [] (by kernel_rfl) rfl (fun k hk => by cases hk) fun ds rr h => ?_
  unfold G19 at h
  split at h
  · rename_i n l
    obtain ⟨hp, h⟩ := need_some h
    rw [yes_iff] at hp
    have h1 := hp
    refine (congrArg T.run (t19 n l)).trans ?_
    have hb := big_eq
    obtain ⟨k1, k2, k3, k4⟩ := net_of h1
    have ez : List.replicate n.I.toNat [D.i 0] = zeros n.I := rfl
    have e6 : ((n.I.toNat : Nat) : Int) = n.I := by omega
    simp only [ez, List.take_length, bytes3]
    rw [← h]
    refine go_dec ⟨by omega, by trivial, by omega, by omega⟩ (go_dec (Nat.le_refl _) (go_yes ⟨h1, by rw [len_zeros]; omega, bnd_zeros _ (by omega)⟩ ?_))
    rw [e6]
  · cases h
theorem ok76 (n : Nat) : FnOK C (n + 1) 76 (mkF s76 G76) := by
  refine fn_ofS hC (sp := sp76) (lp := lp76) (sw := sw76) trivial trivial (by kernel_rfl) [] (by kernel_rfl) rfl (fun k hk => by cases hk) fun ds rr h => ?_
  unfold G76 at h
  split at h
  · rename_i v b n l
    obtain ⟨hp, h⟩ := need_some h
    rw [yes_iff] at hp
    obtain ⟨⟨⟨g1, g2, g3, g4⟩, k1, k2, k3⟩, h2, h3⟩ := hp
    refine (congrArg T.run (t76 v b n l)).trans ?_
    have hb := big_eq
    have hr := k3 v.I.toNat (by omega)
    rw [← h]
    simp only [rg_def]
    refine go_dec ⟨by omega, by omega⟩ (go_if (fun hc => ?_) fun hc => go_dec ⟨by omega, by omega⟩ ?_)
    · have w : IntKind.i64.wrap (IntKind.i64.wrap ((l.L.length : Int) - n.I) + v.I) = (l.L.length : Int) - n.I + v.I := by
        rw [wrap_id (x := (l.L.length : Int) - n.I) (by omega) (by omega)]
        exact wrap_id (by omega) (by omega)
      rw [w]
      unfold backI
      rw [if_pos hc]
    · unfold backI
      rw [if_neg hc]
  · cases h
theorem ok50_7 (n : Nat) : LoopSim C (n + 1) 50 (loopOf C.P 50 7) (mkL l50_7 G50_7) := by
  refine loop_ofK hC (sp := sp50) (lp := lp50) (sw := sw50) ⟨ok76 n, trivial⟩ ⟨ok68 n, ok53 n, trivial⟩ 0 [] (by kernel_rfl) rfl (fun k hk => by cases hk) (by kernel_rfl) (fun ds => ((ds.getD 1 default).I - (ds.getD 2 default).I).toNat) fun ds rr h => ?_
  unfold G50_7 at h
  split at h
  · rename_i v k i n l q b
    obtain ⟨hp, h⟩ := need_some h
    rw [yes_iff] at hp
    obtain ⟨hk, h2, h3, h4, h5, h6, h7⟩ := hp
    have hb := big_eq
    refine ⟨by rw [fuelC]; simp; omega, ?_⟩
    rw [show roundTK C (mkTab sp50 lp50 sw50) 50 (loopOf C.P 50 7) 0 l50_7 [v, k, i, n, l, q, b] = _ from t50_7 v k i n l q b]
    obtain ⟨⟨g1, g2, g3, g4⟩, k1, k2, k3⟩ := id hk
    have e1 : b.L.take q.I.toNat = b.L := List.take_of_length_le (by omega)
    have e2 : ((q.I.toNat : Nat) : Int) = n.I := by omega
    simp only [e1, e2]
    have hr := back_rng hk h3 h4
    have hp := pred_rng hk h3 h4
    refine rd_if (fun hlt => ?_) fun hge => rd_out ?_
    · refine rd_dec (by omega) (rd_yes ⟨hk, h3, h4⟩ (rd_dec hr ?_))
      rw [wrap_id (x := i.I + 1) (by omega) (by omega)]
      refine rd_again ((need_yes ⟨hk, by simp only [I_i], hp.1, hp.2, by simp only [I_i]; omega, by simp only [I_i]; omega, h7⟩).trans ?_) ?_
      · rw [← h]
        simp only [I_i, L_l]
        have e3 : (k.I - i.I).toNat = (k.I - (i.I + 1)).toNat + 1 := by omega
        rw [e3]
        rfl
      · show (k.I - (i.I + 1)).toNat < (k.I - i.I).toNat
        omega
    · rw [← h]
      have e3 : (k.I - i.I).toNat = 0 := by omega
      simp only [e3, walk, run_leaf]
  · cases h
theorem ok50_12 (n : Nat) : LoopSim C (n + 1) 50 (loopOf C.P 50 12) (mkL l50_12 G50_12) := by
  refine loop_ofK hC (sp := sp50) (lp := lp50) (sw := sw50) ⟨ok76 n, trivial⟩ ⟨ok68 n, ok53 n, trivial⟩ 0 [] (by kernel_rfl) rfl (fun k hk => by cases hk) (by kernel_rfl) (fun ds => if (ds.getD 0 default).I = 0 then 502 else dist (ds.getD 4 default).I (ds.getD 5 default).L (ds.getD 8 default).L (ds.getD 1 default).I (ds.getD 3 default).I) fun ds rr h => ?_
  unfold G50_12 at h
  split at h
  · rename_i j v m e n l q p b
    obtain ⟨hp, h⟩ := need_some h
    rw [yes_iff] at hp
    obtain ⟨hj, hk, h2, h3, h4, h5, h6, h7, h8⟩ := hp
    have hb := big_eq
    refine ⟨by show (if j.I = 0 then 502 else dist n.I l.L b.L v.I e.I) < C.fuel; rw [fuelC, if_neg (by omega)]; have := dist_le n.I l.L b.L v.I e.I; omega, ?_⟩
    rw [roundTK_head (j := j) (n := 1) hj (by decide), show roundTK C (mkTab sp50 lp50 sw50) 50 (loopOf C.P 50 12) 0 l50_12 [.i 1, v, m, e, n, l, q, p, b] = _ from t50_12_1 v m e n l q p b]
    obtain ⟨⟨g1, g2, g3, g4⟩, k1, k2, k3⟩ := id hk
    have e1 : b.L.take q.I.toNat = b.L := List.take_of_length_le (by omega)
    have e2 : ((q.I.toNat : Nat) : Int) = n.I := by omega
    have e4 : m.I.toNat = p.L.length := by omega
    have e5 : Try.prog.types[3].bytes = 8 := by have := bytes3; omega
    have e8 : 1 ≤ m.I := by omega
    have e9 : ∀ x : List D, List.take 1 [x] = [x] := fun _ => rfl
    simp only [e1, e2, e4, List.take_length, List.length_cons, List.length_nil, Nat.zero_add, e9]
    have hr := back_rng hk h3 h4
    have hp := pred_rng hk h3 h4
    have hd := dist_le n.I l.L b.L v.I e.I
    refine rd_false (beq_eq_false_iff_ne.2 (by omega)) (rd_ite (fun hc => ?_) fun hc => rd_out ?_)
    · have hne : v.I ≠ e.I := by simpa using hc
      obtain ⟨d1, d2⟩ := dist_succ h8 hne
      have e6 : (p.L ++ [[D.i (backI n.I l.L b.L v.I)]]).length = p.L.length + 1 := by simp
      refine rd_dec (by omega) (rd_yes ⟨hk, h3, h4⟩ (rd_need rfl (rd_false rfl (rd_dec ⟨Nat.le_refl _, by omega, by rw [e5]; omega⟩ (rd_dec (by omega) (rd_yes ⟨hk, h3, h4⟩ (rd_dec hr ?_)))))))
      refine rd_again ((need_yes ⟨rfl, hk, rfl, hp.1, hp.2, by simp only [L_l, I_i, e6], by simp only [L_l, e6]; omega, by simp only [L_l, I_i, e6]; show p.L.length + 1 + dist n.I l.L b.L (predI n.I l.L b.L v.I) e.I ≤ 100000; omega, d2⟩).trans ?_) ?_
      · rw [← h]
        simp only [I_i, L_l]
        show (T.leaf (Ex.exit 2, [D.i 1, D.i ((p.L ++ [[D.i (backI n.I l.L b.L v.I)]] ++ chainF n.I l.L b.L (dist n.I l.L b.L (predI n.I l.L b.L v.I) e.I) (predI n.I l.L b.L v.I)).length : Nat), D.l (p.L ++ [[D.i (backI n.I l.L b.L v.I)]] ++ chainF n.I l.L b.L (dist n.I l.L b.L (predI n.I l.L b.L v.I) e.I) (predI n.I l.L b.L v.I))])).run = _
        rw [d1, chainF, List.append_assoc]
        rfl
      · show (if (1 : Int) = 0 then 502 else dist n.I l.L b.L (predI n.I l.L b.L v.I) e.I) < (if j.I = 0 then 502 else dist n.I l.L b.L v.I e.I)
        rw [if_neg (by decide), if_neg (by omega)]
        omega
    · have he : v.I = e.I := by simpa using hc
      rw [← h, dist_zero he]
      simp only [chainF, List.append_nil, run_leaf]
  · rename_i j v e n l q b
    obtain ⟨hp, h⟩ := need_some h
    rw [yes_iff] at hp
    obtain ⟨hj, hk, h2, h3, h4, h5, h6⟩ := hp
    have hb := big_eq
    refine ⟨by show (if j.I = 0 then 502 else _) < C.fuel; rw [fuelC, if_pos hj]; omega, ?_⟩
    rw [roundTK_head (j := j) (n := 0) hj (by decide), show roundTK C (mkTab sp50 lp50 sw50) 50 (loopOf C.P 50 12) 0 l50_12 [.i 0, v, e, n, l, q, b] = _ from t50_12_0 v e n l q b]
    obtain ⟨⟨g1, g2, g3, g4⟩, k1, k2, k3⟩ := id hk
    have e1 : b.L.take q.I.toNat = b.L := List.take_of_length_le (by omega)
    have e2 : ((q.I.toNat : Nat) : Int) = n.I := by omega
    simp only [e1, e2]
    have hr := back_rng hk h3 h4
    have hp := pred_rng hk h3 h4
    have hd := dist_le n.I l.L b.L (predI n.I l.L b.L v.I) v.I
    refine rd_true rfl (rd_dec (by omega) (rd_yes ⟨hk, h3, h4⟩ (rd_need rfl (rd_false rfl (rd_need rfl (rd_dec (by omega) (rd_yes ⟨hk, h3, h4⟩ (rd_dec hr ?_))))))))
    refine rd_again ((need_yes ⟨rfl, hk, rfl, hp.1, hp.2, rfl, Nat.zero_lt_one, by show 1 + dist n.I l.L b.L (predI n.I l.L b.L v.I) e.I ≤ 100000; rw [h5]; omega, by show reaches n.I l.L b.L (predI n.I l.L b.L v.I) e.I; rw [h5]; exact h6⟩).trans ?_) ?_
    · rw [← h]
      simp only [I_i, L_l, h5]
      rfl
    · show (if (1 : Int) = 0 then 502 else dist n.I l.L b.L (predI n.I l.L b.L v.I) e.I) < (if j.I = 0 then 502 else _)
      rw [if_neg (by decide), if_pos hj, h5]
      omega
  · cases h
theorem ok50 (n : Nat) : FnOK C (n + 2) 50 (mkF s50 G50) := by
  refine fn_ofS hC (sp := sp50) (lp := lp50) (sw := sw50) ⟨ok76 n, trivial⟩ ⟨ok68 n, ok53 n, trivial⟩ (by kernel_rfl) [7, 12] (by kernel_rfl) (by kernel_rfl) (fun k hk L hL => by
      simp at hk
      rcases hk with rfl | rfl <;> cases hL
      · exact ok50_7 n
      · exact ok50_12 n) fun ds rr h => ?_
  unfold G50 at h
  split at h
  · rename_i n l
    obtain ⟨hp, h⟩ := need_some h
    rw [yes_iff] at hp
    obtain ⟨hg, hn⟩ := hp
    refine (congrArg T.run (t50 n l)).trans ?_
    have hb := big_eq
    obtain ⟨g1, g2, g3, g4⟩ := id hg
    have ez : List.replicate n.I.toNat [D.i 0] = zeros n.I := rfl
    have e6 : ((n.I.toNat : Nat) : Int) = n.I := by omega
    have w : IntKind.i64.wrap (n.I + 1) = n.I + 1 := wrap_id (by omega) (by omega)
    have e7 : (n.I + 1 - 0).toNat = n.I.toNat + 1 := by omega
    have hl0 : ((zeros n.I).length : Int) = n.I := by rw [len_zeros]; omega
    simp only [ez, bytes3, w, e7, hl0, e6, Int.toNat_natCast]
    rw [← h]
    have hbk := back_push hg hn (zeros n.I)
    have hno := note_push hg (zeros n.I)
    have hpl := proof_len n.I l.L
    refine go_dec ⟨by omega, by trivial, by omega, by omega⟩ (go_yes ⟨hg, by trivial, by trivial, bnd_zeros _ (by omega)⟩ (go_if (fun hc => ?_) fun hc => ?_))
    · rw [run_ite, if_pos (decide_eq_true hc)]
    · rw [run_ite, if_neg (by simpa using hc)]
      have h0 : 0 ≤ (pushR n.I l.L (zeros n.I)).2.2 := by omega
      have hw := walk_rng hbk (n.I.toNat + 1) h0 hno.2.2.2
      refine go_yes ⟨hbk, by trivial, h0, hno.2.2.2, by omega, by omega, by omega⟩ (go_yes ⟨by trivial, hbk, by trivial, hw.1, hw.2, by trivial, reaches_pred hbk h0 hno.2.2.2 _ (by omega)⟩ (go_yes ⟨by trivial, ?_⟩ ?_))
      · unfold proofR at hpl
        simp only [len_revR] at hpl
        omega
      · unfold proofR
        simp only [len_revR]
        done
  · cases h
noncomputable def sp20 : SpL := [(55, mkF s55 G55), (54, mkF s54 G54)]
noncomputable def lp20 : LpL := [(4, mkL l20_4 G20_4)]
noncomputable def sw20 : SwL := []
noncomputable def tab20 : Tab := mkTab sp20 lp20 sw20
noncomputable def sp21 : SpL := []
noncomputable def lp21 : LpL := [(4, mkL l21_4 G21_4)]
noncomputable def sw21 : SwL := []
noncomputable def tab21 : Tab := mkTab sp21 lp21 sw21
noncomputable def sp15 : SpL := []
noncomputable def lp15 : LpL := []
noncomputable def sw15 : SwL := []
noncomputable def tab15 : Tab := mkTab sp15 lp15 sw15
set_option linter.unusedVariables false
set_option maxRecDepth 100000
theorem t20 (a b c d : D) : fnT C tab20 20 s20 [a, b, c, d] =
  T.need (yes (netP a.I b.L)) (T.need (yes ((↑(0 + 1) : Int) = (1 : Int) ∧ (∃ n, goodL n (allL a.I b.L)) ∧ (↑(Int.toNat (↑(List.length (allL a.I b.L)) : Int)) : Int) = (↑(List.length (allL a.I b.L)) : Int) ∧ c.L.length ≤ 1000000 ∧ (0 : Int) ≤ (0 : Int) ∧ (0 : Int) ≤ (c.L.length : Int) ∧ (-1000000 : Int) * (0 : Int) ≤ (0 : Int) ∧ (0 : Int) ≤ (1000000 : Int) * (0 : Int))) (T.ite (weighF (allL a.I b.L) c.L (Int.toNat (0 : Int)) (c.L.length - Int.toNat (0 : Int)) (0 : Int) d.I).fst (T.leaf [D.i (weighF (allL a.I b.L) c.L (Int.toNat (0 : Int)) (c.L.length - Int.toNat (0 : Int)) (0 : Int) d.I).snd.fst, D.i (weighF (allL a.I b.L) c.L (Int.toNat (0 : Int)) (c.L.length - Int.toNat (0 : Int)) (0 : Int) d.I).snd.snd, D.b true]) (T.leaf [D.i 0, D.i 0, D.b false]))) := by kernel_rfl
theorem t20_4_1 (a b c d e f : D) : roundT C tab20 20 (loopOf C.P 20 4) l20_4 [.i 1, a, b, c, d, e, f] =
  T.ite (decide (e.I < (a.L.length : Int))) (T.need (decide ((0 : Int) ≤ e.I ∧ e.I < (a.L.length : Int))) (T.ite (!within (D.I (List.getD (List.getD a.L e.I.toNat []) 0 default)) (0 : Int) (IntKind.wrap IntKind.i64 ((c.I.toNat : Int) - (1 : Int)))) (T.leaf (Rd.out Ex.ret [D.i 0, D.i 0, D.b false])) (T.need (decide ((0 : Int) ≤ e.I ∧ e.I < (a.L.length : Int))) (T.need (decide ((0 : Int) ≤ D.I (List.getD (List.getD a.L e.I.toNat []) 0 default) ∧ D.I (List.getD (List.getD a.L e.I.toNat []) 0 default) < (c.I.toNat : Int))) (T.need (decide (Int.toNat (D.I (List.getD (List.getD a.L e.I.toNat []) 0 default)) < f.L.length)) (T.ite (D.I (List.getD (List.getD f.L (Int.toNat (D.I (List.getD (List.getD a.L e.I.toNat []) 0 default))) []) 0 default) != b.I) (T.leaf (Rd.out Ex.ret [D.i 0, D.i 0, D.b false])) (T.need (decide ((0 : Int) ≤ e.I ∧ e.I < (a.L.length : Int))) (T.need (decide ((0 : Int) ≤ D.I (List.getD (List.getD a.L e.I.toNat []) 0 default) ∧ D.I (List.getD (List.getD a.L e.I.toNat []) 0 default) < (c.I.toNat : Int))) (T.need (decide (Int.toNat (D.I (List.getD (List.getD a.L e.I.toNat []) 0 default)) < f.L.length)) (T.need (decide ((0 : Int) ≤ e.I ∧ e.I < (a.L.length : Int))) (T.need (decide ((0 : Int) ≤ D.I (List.getD (List.getD a.L e.I.toNat []) 0 default) ∧ D.I (List.getD (List.getD a.L e.I.toNat []) 0 default) < (c.I.toNat : Int))) (T.need (decide (Int.toNat (D.I (List.getD (List.getD a.L e.I.toNat []) 0 default)) < f.L.length)) (T.leaf (Rd.again [D.i 1, D.l a.L, D.i (D.I (List.getD (List.getD f.L (Int.toNat (D.I (List.getD (List.getD a.L e.I.toNat []) 0 default))) []) (0 + 1) default)), D.i (c.I.toNat : Int), D.i (IntKind.wrap IntKind.i64 (d.I + D.I (List.getD (List.getD f.L (Int.toNat (D.I (List.getD (List.getD a.L e.I.toNat []) 0 default))) []) (0 + 1 + 1) default))), D.i (IntKind.wrap IntKind.i64 (e.I + (1 : Int))), D.l f.L])))))))))))))) (T.leaf (Rd.out (Ex.exit 0) [D.i b.I, D.i d.I])) := by kernel_rfl
theorem t21 (a b : D) : fnT C tab21 21 s21 [a, b] =
  T.ite ((a.L.length : Int) != (b.L.length : Int)) (T.leaf [D.b false]) (T.need (yes (a.L.length < big ∧ a.L.length = b.L.length ∧ (0 : Int) ≤ (0 : Int) ∧ (0 : Int) ≤ (a.L.length : Int))) (T.ite (allFrom (fun j => rg a.L j == rg b.L j) (Int.toNat (0 : Int)) (a.L.length - Int.toNat (0 : Int))) (T.leaf [D.b true]) (T.leaf [D.b false]))) := by kernel_rfl
theorem t21_4 (a b c : D) : roundT C tab21 21 (loopOf C.P 21 4) l21_4 [a, b, c] =
  T.ite (decide (c.I < (a.L.length : Int))) (T.need (decide ((0 : Int) ≤ c.I ∧ c.I < (a.L.length : Int))) (T.need (decide ((0 : Int) ≤ c.I ∧ c.I < (b.L.length : Int))) (T.ite (D.I (List.getD (List.getD a.L c.I.toNat []) 0 default) != D.I (List.getD (List.getD b.L c.I.toNat []) 0 default)) (T.leaf (Rd.out Ex.ret [D.b false])) (T.leaf (Rd.again [D.l a.L, D.l b.L, D.i (IntKind.wrap IntKind.i64 (c.I + (1 : Int)))]))))) (T.leaf (Rd.out (Ex.exit 0) [])) := by kernel_rfl
theorem t15 (a b : D) : fnT C tab15 15 s15 [a, b] =
  T.ite (decide (a.I ≤ (12 : Int))) (T.ite (decide ((b.L.length : Int) ≤ (30 : Int))) (T.leaf [D.b true]) (T.ite (decide ((b.L.length : Int) > (5000 : Int))) (T.leaf [D.b (decide ((b.L.length : Int) < (5200 : Int)))]) (T.leaf [D.b false]))) (T.ite (decide (a.I > (500 : Int))) (T.ite (decide ((b.L.length : Int) ≤ (30 : Int))) (T.leaf [D.b true]) (T.ite (decide ((b.L.length : Int) > (5000 : Int))) (T.leaf [D.b (decide ((b.L.length : Int) < (5200 : Int)))]) (T.leaf [D.b false]))) (T.leaf [D.b false])) := by kernel_rfl
set_option maxRecDepth 100000
theorem bnot_t {b : Bool} (h : (!b) = true) : b = false := by cases b; rfl; cases h
theorem bnot_f {b : Bool} (h : (!b) = false) : b = true := by cases b; cases h; rfl
theorem weigh_no {a c : List (List D)} : ∀ (k i : Nat) (s v : Int), (weighF a c i k s v).1 = false → weighF a c i k s v = (false, 0, 0)
  | 0, _, _, _, h => by cases h
  | k + 1, i, s, v, h => by
    simp only [weighF] at h ⊢
    split
    · rename_i hc
      rw [if_pos hc] at h
      exact weigh_no k (i + 1) _ _ h
    · rfl
theorem ok21_4 (n : Nat) : LoopSim C (n + 0) 21 (loopOf C.P 21 4) (mkL l21_4 G21_4) := by
  refine loop_ofK hC (sp := sp21) (lp := lp21) (sw := sw21) trivial trivial 0 [] (by kernel_rfl) rfl (fun k hk => by cases hk) (by kernel_rfl) (fun ds => (((ds.getD 0 default).L.length : Int) - (ds.getD 2 default).I).toNat) fun ds rr h => ?_
  unfold G21_4 at h
  split at h
  · rename_i a b i
    obtain ⟨hp, h⟩ := need_some h
    rw [yes_iff] at hp
    obtain ⟨h1, h2, h3, h4⟩ := hp
    have hb := big_eq
    refine ⟨by rw [fuelC]; simp; omega, ?_⟩
    rw [show roundTK C (mkTab sp21 lp21 sw21) 21 (loopOf C.P 21 4) 0 l21_4 [a, b, i] = _ from t21_4 a b i]
    obtain ⟨k, hk⟩ : ∃ k : Nat, i.I = k := ⟨i.I.toNat, by omega⟩
    
    simp only [hk, Int.toNat_natCast] at h h4 ⊢
    refine rd_if (fun hlt => ?_) fun hge => rd_out (all_end h (by omega))
    have hkl : k < a.L.length := by omega
    obtain ⟨s1, s2⟩ := all_step h hkl
    refine rd_dec ⟨by omega, by omega⟩ (rd_dec ⟨by omega, by omega⟩ (rd_ite (fun c => rd_out (s1 (bnot_t c))) fun c => ?_))
    rw [wrap_succ (by omega)]
    exact rd_again ((need_yes ⟨h1, h2, by simp only [I_i]; omega, by simp only [I_i, L_l]; omega⟩).trans (s2 (bnot_f c))) (show ((a.L.length : Int) - ((k + 1 : Nat) : Int)).toNat < ((a.L.length : Int) - i.I).toNat by omega)
  · cases h
theorem ok21 (n : Nat) : FnOK C (n + 1) 21 (mkF s21 G21) := by
  refine fn_ofS hC (sp := sp21) (lp := lp21) (sw := sw21) trivial trivial (by kernel_rfl) [4] (by kernel_rfl) (by kernel_rfl) (fun k hk L hL => by simp at hk; subst hk; cases hL; exact ok21_4 n) fun ds rr h => ?_
  unfold G21 at h
  split at h
  · rename_i a b
    obtain ⟨hp, h⟩ := need_some h
    rw [yes_iff] at hp
    have h1 := hp
    refine (congrArg T.run (t21 a b)).trans ?_
    rw [← h]
    unfold sameR
    refine go_ite (fun c => ?_) fun c => ?_
    · have : ¬ a.L.length = b.L.length := fun e => by rw [e] at c; simp at c
      rw [decide_eq_false this, Bool.false_and]
    · have e9 : (a.L.length : Int) = b.L.length := eq_of_beq (bnot_f c)
      have e : a.L.length = b.L.length := by omega
      rw [decide_eq_true e, Bool.true_and]
      simp only [Int.toNat_zero, Nat.sub_zero]
      exact go_yes ⟨h1, e, by omega, by omega⟩ (go_ite (fun c6 => by rw [c6]) fun c6 => by rw [c6])
  · cases h
theorem ok15 (n : Nat) : FnOK C (n + 1) 15 (mkF s15 G15) := by
  refine fn_ofS hC (sp := sp15) (lp := lp15) (sw := sw15) trivial trivial (by kernel_rfl) [] (by kernel_rfl) rfl (fun k hk => by cases hk) fun ds rr h => ?_
  unfold G15 at h
  split at h
  · rename_i a b
    refine (congrArg T.run (t15 a b)).trans ?_
    rw [← h]
    unfold fewB
    refine go_if (fun c1 => go_if (fun c2 => ?_) fun c2 => go_if (fun c3 => ?_) fun c3 => ?_) fun c1 => go_if (fun c0 => go_if (fun c2 => ?_) fun c2 => go_if (fun c3 => ?_) fun c3 => ?_) fun c0 => ?_
    · rw [decide_eq_true c1, decide_eq_true c2]; rfl
    · rw [decide_eq_true c1, decide_eq_false c2, decide_eq_true c3]; rfl
    · rw [decide_eq_true c1, decide_eq_false c2, decide_eq_false c3]; rfl
    · rw [decide_eq_false c1, decide_eq_true c0, decide_eq_true c2]; rfl
    · rw [decide_eq_false c1, decide_eq_true c0, decide_eq_false c2, decide_eq_true c3]; rfl
    · rw [decide_eq_false c1, decide_eq_true c0, decide_eq_false c2, decide_eq_false c3]; rfl
    · rw [decide_eq_false c1, decide_eq_false c0]; rfl
  · cases h
theorem ok20_4 (n : Nat) : LoopSim C (n + 1) 20 (loopOf C.P 20 4) (mkL l20_4 G20_4) := by
  refine loop_ofK hC (sp := sp20) (lp := lp20) (sw := sw20) ⟨ok55 n, ok54 n, trivial⟩ trivial 0 [] (by kernel_rfl) rfl (fun k hk => by cases hk) (by kernel_rfl) (fun ds => ((ds.getD 1 default).L.length : Int).toNat - (ds.getD 5 default).I.toNat) fun ds rr h => ?_
  unfold G20_4 at h
  split at h
  · rename_i j c v m s i a
    obtain ⟨hp, h⟩ := need_some h
    rw [yes_iff] at hp
    obtain ⟨hj, ⟨n, g1, g2, g3, g4⟩, h2, h3, h4, h5, h6, h7⟩ := hp
    have hb := big_eq
    refine ⟨by rw [fuelC]; simp; omega, ?_⟩
    rw [roundTK_head (j := j) (n := 1) hj (by decide), show roundTK C (mkTab sp20 lp20 sw20) 20 (loopOf C.P 20 4) 0 l20_4 [.i 1, c, v, m, s, i, a] = _ from t20_4_1 c v m s i a]
    obtain ⟨k, hk⟩ : ∃ k : Nat, i.I = k := ⟨i.I.toNat, by omega⟩
    
    have w1 : IntKind.i64.wrap ((a.L.length : Int) - 1) = (a.L.length : Int) - 1 := wrap_id (by omega) (by omega)
    simp only [hk, h2, Int.toNat_natCast, Nat.zero_add, Nat.reduceAdd, rg_def, w1] at h h5 h6 h7 ⊢
    refine rd_if (fun hlt => ?_) fun hge => rd_out ?_
    · have hkl : k < c.L.length := by omega
      rw [show c.L.length - k = (c.L.length - (k + 1)) + 1 by omega] at h
      simp only [weighF] at h
      refine rd_dec ⟨by omega, by omega⟩ (rd_not (fun c1 => rd_out ?_) fun c1 => ?_)
      · have hn : ¬ ((0 ≤ rg c.L k ∧ rg c.L k ≤ (a.L.length : Int) - 1) ∧ lkF a.L (rg c.L k).toNat = v.I) := fun hh => by rw [Lite.within_iff.2 hh.1] at c1; cases c1
        simp only [if_neg hn] at h
        exact h
      · have d1 := Lite.within_iff.1 c1
        obtain ⟨f1, f2, f3⟩ := g4 (rg c.L k).toNat (by omega)
        have e1 : rg a.L (rg c.L k).toNat = lkF a.L (rg c.L k).toNat := rfl
        have e2 : ((a.L.getD (rg c.L k).toNat []).getD 1 default).I = lkT a.L (rg c.L k).toNat := rfl
        have e3 : ((a.L.getD (rg c.L k).toNat []).getD 2 default).I = lkW a.L (rg c.L k).toNat := rfl
        have ws : IntKind.i64.wrap (s.I + lkW a.L (rg c.L k).toNat) = s.I + lkW a.L (rg c.L k).toNat := wrap_id (by omega) (by omega)
        simp only [e1, e2, e3, ws]
        refine rd_dec ⟨by omega, by omega⟩ (rd_dec ⟨by omega, by omega⟩ (rd_dec (by omega) (rd_ite (fun c2 => rd_out ?_) fun c2 => ?_)))
        · have hv : ¬ lkF a.L (rg c.L k).toNat = v.I := fun e => by rw [e] at c2; simp at c2
          have hn : ¬ ((0 ≤ rg c.L k ∧ rg c.L k ≤ (a.L.length : Int) - 1) ∧ lkF a.L (rg c.L k).toNat = v.I) := fun hh => hv hh.2
          simp only [if_neg hn] at h
          exact h
        · have hv : lkF a.L (rg c.L k).toNat = v.I := eq_of_beq (bnot_f c2)
          have hy : (0 ≤ rg c.L k ∧ rg c.L k ≤ (a.L.length : Int) - 1) ∧ lkF a.L (rg c.L k).toNat = v.I := ⟨d1, hv⟩
          simp only [if_pos hy] at h
          rw [wrap_succ (by omega)]
          refine rd_dec ⟨by omega, by omega⟩ (rd_dec ⟨by omega, by omega⟩ (rd_dec (by omega) (rd_dec ⟨by omega, by omega⟩ (rd_dec ⟨by omega, by omega⟩ (rd_dec (by omega) (rd_again ((need_yes ⟨rfl, ⟨n, g1, g2, g3, g4⟩, rfl, h3, by simp only [I_i]; omega, by simp only [I_i, L_l]; omega, by simp only [I_i]; omega, by simp only [I_i]; omega⟩).trans ?_) ?_))))))
          · simp only [L_l, I_i, Int.toNat_natCast]
            exact h
          · show (c.L.length : Int).toNat - ((k + 1 : Nat) : Int).toNat < (c.L.length : Int).toNat - i.I.toNat
            omega
    · rw [← h]
      have e5 : c.L.length - k = 0 := by omega
      simp only [e5, weighF]
      rfl
  · cases h
theorem ok20 (n : Nat) : FnOK C (n + 2) 20 (mkF s20 G20) := by
  refine fn_ofS hC (sp := sp20) (lp := lp20) (sw := sw20) ⟨ok55 n, ok54 n, trivial⟩ trivial (by kernel_rfl) [4] (by kernel_rfl) (by kernel_rfl) (fun k hk L hL => by simp at hk; subst hk; cases hL; exact ok20_4 n) fun ds rr h => ?_
  unfold G20 at h
  split at h
  · rename_i n l c v
    obtain ⟨hp, h⟩ := need_some h
    rw [yes_iff] at hp
    obtain ⟨hp, h2⟩ := hp
    refine (congrArg T.run (t20 n l c v)).trans ?_
    have hb := big_eq
    have hg := good_all hp
    rw [← h]
    simp only [Int.toNat_zero, Nat.sub_zero]
    refine go_yes hp (go_yes ⟨by trivial, ⟨_, hg⟩, by omega, h2, by omega, by omega, by omega, by omega⟩ (go_ite (fun c3 => by rw [c3]) fun c3 => ?_))
    rw [weigh_no _ _ _ _ c3]
  · cases h
set_option maxRecDepth 100000
def netN (n : Int) (l : List (List D)) : Net := ⟨n.toNat, l.length, fun i => (lkF l i).toNat, fun i => (lkT l i).toNat, fun i => lkW l i⟩
theorem netN_ok {n : Int} {l : List (List D)} (h : goodL n l) : (netN n l).OK :=
  ⟨fun i hi => by have := (h.2.2.2 i hi).1; show (lkF l i).toNat < n.toNat; omega, fun i hi => by have := (h.2.2.2 i hi).2.1; show (lkT l i).toNat < n.toNat; omega⟩
structure SimR (n : Int) (s : RSt) (x : Rz) : Prop where
  l1 : s.1.length = n.toNat
  l2 : s.2.1.length = n.toNat
  t : ∀ j, x.t j = rg s.1 j
  b : ∀ j, j < n.toNat → x.b j = rg s.2.1 j
  r : x.r = s.2.2
theorem sim_step {n : Int} {l : List (List D)} (hl : goodL n l) {i ρ : Nat} (hi : i < l.length) {s : RSt} {x : Rz} (h : SimR n s x) : SimR n (stepR l i s) ((netN n l).step ρ i x) := by
  obtain ⟨h1, h2, h3, h4, h5⟩ := h
  obtain ⟨f1, f2, f3⟩ := hl.2.2.2 i hi
  unfold stepR Net.step netN
  simp only [h3]
  by_cases hc : rg s.1 (lkF l i).toNat + lkW l i > rg s.1 (lkT l i).toNat
  · rw [if_pos hc, if_pos hc]
    refine ⟨by simp only [len_rs]; exact h1, by simp only [len_rs]; exact h2, fun j => ?_, fun j hj => ?_, ?_⟩
    · simp only [upd]
      rw [rg_rs (by omega), h3]
    · simp only [upd]
      rw [rg_rs (by omega), h4 j hj]
    · simp only
      omega
  · rw [if_neg hc, if_neg hc]
    exact ⟨h1, h2, h3, h4, h5⟩
theorem sim_pass {n : Int} {l : List (List D)} (hl : goodL n l) {ρ : Nat} : ∀ (k i : Nat), i + k ≤ l.length → ∀ {s : RSt} {x : Rz}, SimR n s x → SimR n (passR l i k s) ((netN n l).pass ρ i k x)
  | 0, _, _, _, _, h => h
  | k + 1, i, hk, _, _, h => sim_pass hl k (i + 1) (by omega) (sim_step hl (by omega) h)
theorem sim_rounds {n : Int} {l : List (List D)} (hl : goodL n l) : ∀ (k ρ : Nat) {s : RSt} {x : Rz}, SimR n s x → SimR n (roundsR l k s) ((netN n l).rounds ρ k x)
  | 0, _, _, _, h => h
  | k + 1, ρ, s, x, h => by
    have h1 := sim_pass hl (ρ := ρ) l.length 0 (by omega) (s := (s.1, s.2.1, -1)) (x := { x with r := -1 }) ⟨h.l1, h.l2, h.t, h.b, rfl⟩
    simp only [roundsR, Net.rounds]
    have e : ((netN n l).pass ρ 0 (netN n l).m { x with r := -1 }).r = (passR l 0 l.length (s.1, s.2.1, -1)).2.2 := h1.r
    rw [e]
    split
    · exact h1
    · exact sim_rounds hl k (ρ + 1) h1
theorem sim_push {n : Int} {l t : List (List D)} (hl : goodL n l) (ht : t.length = n.toNat) : SimR n (pushR n l t) ((netN n l).rounds 1 (n.toNat + 1) (Rz.start (rg t))) :=
  sim_rounds hl _ _ ⟨ht, by simp, fun _ => rfl, fun j hj => (rg_rep hj).symm, rfl⟩
theorem kept_push {n : Int} {l t : List (List D)} (hl : goodL n l) (ht : t.length = n.toNat) (hr : (pushR n l t).2.2 < 0) : (netN n l).kept (rg (pushR n l t).1) := by
  have h := sim_push hl ht
  have h1 := Net.rounds_kept (E := netN n l) (n.toNat + 1) 1 (Rz.start (rg t)) (by omega) (by rw [h.r]; exact hr)
  intro i hi
  have := h1 i hi
  rw [h.t, h.t] at this
  exact this
theorem push_ub {n : Int} {l t : List (List D)} (hl : goodL n l) (ht : t.length = n.toNat) {p : Nat → Int} (hp : (netN n l).kept p) (h0 : ∀ j, rg t j ≤ p j) (j : Nat) : rg (pushR n l t).1 j ≤ p j := by
  have h := sim_push hl ht
  rw [← h.t]
  exact Net.rounds_ub hp _ _ _ h0 j
theorem push_le {n : Int} {l t : List (List D)} (hl : goodL n l) (ht : t.length = n.toNat) (j : Nat) : rg t j ≤ rg (pushR n l t).1 j := by
  have h := sim_push hl ht
  rw [← h.t]
  exact Net.rounds_le (E := netN n l) (n.toNat + 1) 1 (Rz.start (rg t)) j
theorem rg_zeros (n : Int) (j : Nat) : rg (zeros n) j = 0 := by
  unfold zeros
  by_cases hj : j < n.toNat
  · exact rg_rep hj
  · exact rg_ge (by simp only [List.length_replicate]; omega)
theorem kept_first {n : Int} {l : List (List D)} {p : Nat → Int} (hp : (netN n (allL n l)).kept p) {j : Nat} (hj : j < n.toNat) : p 0 ≤ p j := by
  have := hp (l.length + j) (show l.length + j < (allL n l).length by rw [len_allL]; omega)
  simp only [netN] at this
  unfold lkF lkT lkW at this
  rw [allL_get2 hj] at this
  simp only [ix, List.getD_cons_zero, List.getD_cons_succ, D.I, Int.toNat_natCast, Int.toNat_zero] at this
  omega
theorem push_zero {n : Int} {l : List (List D)} (hp : netP n l) (hr : (pushR n (allL n l) (zeros n)).2.2 < 0) : rg (pushR n (allL n l) (zeros n)).1 0 = 0 := by
  have hl := good_all hp
  have hn := (net_of hp).1
  have hk := kept_push hl (len_zeros n) hr
  have h1 := push_ub hl (len_zeros n) (p := fun j => if j < n.toNat then rg (pushR n (allL n l) (zeros n)).1 j - rg (pushR n (allL n l) (zeros n)).1 0 else rg (pushR n (allL n l) (zeros n)).1 j) (fun i hi => by
      have h2 := hk i hi
      have h3 := (netN_ok hl).f i hi
      have h4 := (netN_ok hl).t i hi
      have h3' : (netN n (allL n l)).f i < n.toNat := h3
      have h4' : (netN n (allL n l)).t i < n.toNat := h4
      simp only
      rw [if_pos h3', if_pos h4']
      omega) (fun j => by
      rw [rg_zeros]
      split
      · rename_i hj
        have := kept_first hk hj
        omega
      · have := push_le hl (len_zeros n) j
        rw [rg_zeros] at this
        exact this) 0
  rw [if_pos (by omega)] at h1
  have h2 := push_le hl (len_zeros n) 0
  rw [rg_zeros] at h2
  omega
theorem ref_push {n : Int} {l : List (List D)} (hp : netP n l) : (refR n l (zeros n)).1 = (pushR n (allL n l) (zeros n)).1 ∧ refOk n l (zeros n) = decide ((pushR n (allL n l) (zeros n)).2.2 < 0) := by
  have hl := good_all hp
  obtain ⟨e1, e2⟩ := rounds_last (l := allL n l) (zeros n, List.replicate n.toNat [.i (-1)], -1) (zeros n, [], 0) rfl hl n.toNat
  have e1' : (refR n l (zeros n)).1 = (pushR n (allL n l) (zeros n)).1 := e1.symm
  refine ⟨e1', ?_⟩
  unfold refOk
  rw [e1']
  by_cases hr : (pushR n (allL n l) (zeros n)).2.2 < 0
  · have h2 : (refR n l (zeros n)).2.2 < 0 := e2.1 hr
    rw [decide_eq_true hr, decide_eq_true h2, push_zero hp hr]
    rfl
  · have h2 : ¬ (refR n l (zeros n)).2.2 < 0 := fun h => hr (e2.2 h)
    rw [decide_eq_false hr, decide_eq_false h2]
    rfl
theorem revR_get : ∀ (k i : Nat) (r : List (List D)), r.length ≤ i + k → ∀ j, j < r.length → rg (revR i k r) j = if i ≤ j ∧ j + i < r.length then rg r (r.length - 1 - j) else rg r j
  | 0, i, r, hk, j, hj => by
    simp only [revR]
    rw [if_neg (by omega)]
  | k + 1, i, r, hk, j, hj => by
    simp only [revR]
    by_cases hc : (i : Int) < (r.length : Int) - 1 - i
    · have hc' : i < r.length - 1 - i := by omega
      rw [if_pos hc, revR_get k (i + 1) _ (by simp only [len_rs]; omega) j (by simp only [len_rs]; exact hj)]
      simp only [len_rs]
      have g : ∀ q, q < r.length → rg (rs (rs r i (rg r (r.length - 1 - i))) (r.length - 1 - i) (rg r i)) q = if q = r.length - 1 - i then rg r i else if q = i then rg r (r.length - 1 - i) else rg r q := fun q hq => by
        rw [rg_rs (by rw [len_rs]; omega), rg_rs (by omega)]
      rw [g _ hj, g _ (by omega)]
      by_cases h1 : j = i
      · subst h1
        rw [if_neg (by omega), if_neg (by omega), if_pos rfl, if_pos (by omega)]
      · by_cases h2 : j = r.length - 1 - i
        · rw [if_neg (by omega), if_pos h2, if_pos (by omega), h2]
          have : r.length - 1 - (r.length - 1 - i) = i := by omega
          rw [this]
        · by_cases h3 : i ≤ j ∧ j + i < r.length
          · rw [if_pos (by omega), if_neg (by omega), if_neg (by omega), if_pos h3]
          · rw [if_neg (by omega), if_neg h2, if_neg h1, if_neg h3]
    · rw [if_neg hc]
      by_cases h3 : i ≤ j ∧ j + i < r.length
      · rw [if_pos h3]
        have : r.length - 1 - j = j := by omega
        rw [this]
      · rw [if_neg h3]
set_option maxRecDepth 100000
def NO : Int := -4611686018427387904
def stepW (a r : List (List D)) (i : Nat) (s : List (List D)) : List (List D) :=
  if rg r (lkF a i).toNat > NO then rs s (lkT a i).toNat (max (rg s (lkT a i).toNat) (rg r (lkF a i).toNat + lkW a i)) else s
def passW (a r : List (List D)) : Nat → Nat → List (List D) → List (List D)
  | _, 0, s => s
  | i, k + 1, s => passW a r (i + 1) k (stepW a r i s)
def rowW (n : Int) (a : List (List D)) : Nat → List (List D)
  | 0 => .cons [.i 0] (List.replicate (n.toNat - 1) [.i NO])
  | k + 1 => passW a (rowW n a k) 0 a.length (List.replicate n.toNat [.i NO])
def hB (R : List (List D)) (j : Nat) : Bool := bx (R.getD j []) 0
def tiB (a t : List (List D)) (i : Nat) : Bool := rg t (lkF a i).toNat + lkW a i == rg t (lkT a i).toNat
def stepH (a t r : List (List D)) (i : Nat) (s : List (List D)) : List (List D) :=
  if hB r (lkF a i).toNat && tiB a t i then s.set (lkT a i).toNat [.b true] else s
def passH (a t r : List (List D)) : Nat → Nat → List (List D) → List (List D)
  | _, 0, s => s
  | i, k + 1, s => passH a t r (i + 1) k (stepH a t r i s)
def rowH (n : Int) (a t : List (List D)) : Nat → List (List D)
  | 0 => (List.replicate n.toNat [.b false]).set 0 [.b true]
  | k + 1 => passH a t (rowH n a t k) 0 a.length (List.replicate n.toNat [.b false])
def atW (n : Int) (a : List (List D)) (k : Nat) (m : Int) : Int :=
  firstFrom (fun i => lkT a i == m && (decide (rg (rowW n a k) (lkF a i).toNat > NO) && rg (rowW n a k) (lkF a i).toNat + lkW a i == rg (rowW n a (k + 1)) m.toNat)) 0 a.length
def atH (n : Int) (a t : List (List D)) (k : Nat) (m : Int) : Int :=
  firstFrom (fun i => lkT a i == m && (hB (rowH n a t k) (lkF a i).toNat && tiB a t i)) 0 a.length
def backW (n : Int) (a : List (List D)) : Nat → Int → List (List D)
  | 0, _ => []
  | k + 1, m => [.i (atW n a k m)] :: backW n a k (lkF a (atW n a k m).toNat)
def backH (n : Int) (a t : List (List D)) : Nat → Int → List (List D)
  | 0, _ => []
  | k + 1, m => [.i (atH n a t k m)] :: backH n a t k (lkF a (atH n a t k m).toNat)
def leastK (p : Nat → Bool) : Nat → Nat → Nat
  | k, 0 => k
  | k, f + 1 => if p k then k else leastK p (k + 1) f
def numW (n : Int) (a t : List (List D)) (m : Nat) : Nat := leastK (fun k => rg (rowW n a k) m == rg t m) 0 n.toNat
def numH (n : Int) (a t : List (List D)) (m : Nat) : Nat := leastK (fun k => hB (rowH n a t k) m) 0 n.toNat
theorem firstFrom_congr {p q : Nat → Bool} : ∀ (k i : Nat), (∀ j, i ≤ j → j < i + k → p j = q j) → firstFrom p i k = firstFrom q i k
  | 0, _, _ => rfl
  | k + 1, i, h => by
    simp only [firstFrom]
    rw [h i (Nat.le_refl _) (by omega), firstFrom_congr k (i + 1) fun j h1 h2 => h j (by omega) (by omega)]
theorem firstFrom_is {p : Nat → Bool} : ∀ (k i : Nat), (∃ j, i ≤ j ∧ j < i + k ∧ p j = true) → (i : Int) ≤ firstFrom p i k ∧ firstFrom p i k < (i : Int) + k ∧ p (firstFrom p i k).toNat = true
  | 0, i, ⟨j, h1, h2, _⟩ => by omega
  | k + 1, i, ⟨j, h1, h2, h3⟩ => by
    simp only [firstFrom]
    by_cases c : p i = true
    · rw [if_pos c]
      exact ⟨Int.le_refl _, by omega, by rw [Int.toNat_natCast]; exact c⟩
    · rw [if_neg c]
      have hne : j ≠ i := fun e => c (by rw [← e]; exact h3)
      obtain ⟨a1, a2, a3⟩ := firstFrom_is k (i + 1) ⟨j, by omega, by omega, h3⟩
      exact ⟨by omega, by omega, a3⟩
theorem leastK_congr {p q : Nat → Bool} : ∀ (f k : Nat), (∀ j, p j = q j) → leastK p k f = leastK q k f
  | 0, _, _ => rfl
  | f + 1, k, h => by
    simp only [leastK]
    rw [h k, leastK_congr f (k + 1) h]
theorem leastK_is {p : Nat → Bool} : ∀ (f k j : Nat), k ≤ j → j < k + f → p j = true → leastK p k f ≤ j ∧ k ≤ leastK p k f ∧ p (leastK p k f) = true ∧ ∀ i, k ≤ i → i < leastK p k f → p i = false
  | 0, k, j, h1, h2, _ => by omega
  | f + 1, k, j, h1, h2, h3 => by
    simp only [leastK]
    by_cases c : p k = true
    · rw [if_pos c]
      exact ⟨h1, Nat.le_refl _, c, fun i h4 h5 => by omega⟩
    · rw [if_neg c]
      have hne : j ≠ k := fun e => c (by rw [← e]; exact h3)
      obtain ⟨b1, b2, b3, b4⟩ := leastK_is f (k + 1) j (by omega) (by omega) h3
      refine ⟨b1, by omega, b3, fun i h4 h5 => ?_⟩
      by_cases e : i = k
      · subst e
        cases hp : p i with
        | true => exact absurd hp c
        | false => rfl
      · exact b4 i (by omega) h5
section
variable {a t r : List (List D)} {n : Int}
theorem len_stepW (i : Nat) (s : List (List D)) : (stepW a r i s).length = s.length := by
  unfold stepW
  split
  · exact len_rs _ _ _
  · rfl
theorem len_passW : ∀ (k i : Nat) (s : List (List D)), (passW a r i k s).length = s.length
  | 0, _, _ => rfl
  | k + 1, i, s => by rw [passW, len_passW k, len_stepW]
theorem len_rowW (hn : 1 ≤ n) : ∀ k, (rowW n a k).length = n.toNat
  | 0 => by
    rw [rowW, List.length_cons, List.length_replicate]
    omega
  | k + 1 => by rw [rowW, len_passW, List.length_replicate]
theorem stepW_le {B : Nat → Int} {i : Nat} {s : List (List D)} (hs : ∀ m, rg s m ≤ B m) (hi : rg r (lkF a i).toNat > NO → rg r (lkF a i).toNat + lkW a i ≤ B (lkT a i).toNat) (m : Nat) : rg (stepW a r i s) m ≤ B m := by
  unfold stepW
  split
  · rename_i c
    by_cases hl : (lkT a i).toNat < s.length
    · rw [rg_rs hl]
      split
      · rename_i e
        subst e
        have := hi c
        have := hs (lkT a i).toNat
        omega
      · exact hs m
    · unfold rs
      rw [List.set_eq_of_length_le (by omega)]
      exact hs m
  · exact hs m
theorem passW_le {B : Nat → Int} : ∀ (k i : Nat) {s : List (List D)}, (∀ m, rg s m ≤ B m) → (∀ j, i ≤ j → j < i + k → rg r (lkF a j).toNat > NO → rg r (lkF a j).toNat + lkW a j ≤ B (lkT a j).toNat) → ∀ m, rg (passW a r i k s) m ≤ B m
  | 0, _, _, hs, _, m => hs m
  | k + 1, i, s, hs, h, m => passW_le k (i + 1) (stepW_le hs (h i (Nat.le_refl _) (by omega))) (fun j h1 h2 => h j (by omega) (by omega)) m
theorem stepW_ge (i : Nat) (s : List (List D)) (m : Nat) : rg s m ≤ rg (stepW a r i s) m := by
  unfold stepW
  split
  · by_cases hl : (lkT a i).toNat < s.length
    · rw [rg_rs hl]
      split
      · rename_i e
        subst e
        omega
      · exact Int.le_refl _
    · unfold rs
      rw [List.set_eq_of_length_le (by omega)]
      exact Int.le_refl _
  · exact Int.le_refl _
theorem passW_ge : ∀ (k i : Nat) (s : List (List D)) (m : Nat), rg s m ≤ rg (passW a r i k s) m
  | 0, _, _, _ => Int.le_refl _
  | k + 1, i, s, m => Int.le_trans (stepW_ge i s m) (passW_ge k (i + 1) _ m)
theorem passW_at : ∀ (k i : Nat) (s : List (List D)) (j : Nat), i ≤ j → j < i + k → (lkT a j).toNat < s.length → rg r (lkF a j).toNat > NO → rg r (lkF a j).toNat + lkW a j ≤ rg (passW a r i k s) (lkT a j).toNat
  | 0, i, s, j, h1, h2, _, _ => by omega
  | k + 1, i, s, j, h1, h2, h3, h4 => by
    rw [passW]
    by_cases e : j = i
    · subst e
      refine Int.le_trans ?_ (passW_ge k (j + 1) _ _)
      unfold stepW
      rw [if_pos h4, rg_rs h3, if_pos rfl]
      omega
    · exact passW_at k (i + 1) _ j (by omega) (by omega) (by rw [len_stepW]; exact h3) h4
theorem stepW_or (i : Nat) (s : List (List D)) (m : Nat) : rg (stepW a r i s) m = rg s m ∨ (lkT a i).toNat = m ∧ rg r (lkF a i).toNat > NO ∧ rg (stepW a r i s) m = rg r (lkF a i).toNat + lkW a i := by
  unfold stepW
  split
  · rename_i c
    by_cases hl : (lkT a i).toNat < s.length
    · rw [rg_rs hl]
      split
      · rename_i e
        subst e
        by_cases hc : rg s (lkT a i).toNat ≤ rg r (lkF a i).toNat + lkW a i
        · exact .inr ⟨rfl, c, by omega⟩
        · exact .inl (by omega)
      · exact .inl rfl
    · unfold rs
      rw [List.set_eq_of_length_le (by omega)]
      exact .inl rfl
  · exact .inl rfl
theorem passW_or : ∀ (k i : Nat) (s : List (List D)) (m : Nat), rg (passW a r i k s) m = rg s m ∨ ∃ j, i ≤ j ∧ j < i + k ∧ (lkT a j).toNat = m ∧ rg r (lkF a j).toNat > NO ∧ rg (passW a r i k s) m = rg r (lkF a j).toNat + lkW a j
  | 0, _, _, _ => .inl rfl
  | k + 1, i, s, m => by
    rw [passW]
    rcases passW_or k (i + 1) (stepW a r i s) m with h | ⟨j, h1, h2, h3, h4, h5⟩
    · rcases stepW_or (a := a) (r := r) i s m with g | ⟨g1, g2, g3⟩
      · exact .inl (h.trans g)
      · exact .inr ⟨i, Nat.le_refl _, by omega, g1, g2, h.trans g3⟩
    · exact .inr ⟨j, by omega, by omega, h3, h4, h5⟩
theorem len_stepH (i : Nat) (s : List (List D)) : (stepH a t r i s).length = s.length := by
  unfold stepH
  split
  · exact List.length_set
  · rfl
theorem len_passH : ∀ (k i : Nat) (s : List (List D)), (passH a t r i k s).length = s.length
  | 0, _, _ => rfl
  | k + 1, i, s => by rw [passH, len_passH k, len_stepH]
theorem len_rowH : ∀ k, (rowH n a t k).length = n.toNat
  | 0 => by rw [rowH, List.length_set, List.length_replicate]
  | k + 1 => by rw [rowH, len_passH, List.length_replicate]
theorem hB_set {s : List (List D)} {j : Nat} (hj : j < s.length) (v : Bool) (m : Nat) : hB (s.set j [.b v]) m = if m = j then v else hB s m := by
  unfold hB bx
  simp only [List.getD_eq_getElem?_getD, List.getElem?_set]
  by_cases e : m = j
  · subst e
    simp [hj, D.B]
  · rw [if_neg (fun h => e h.symm), if_neg e]
theorem hB_ge {s : List (List D)} {j : Nat} (hj : s.length ≤ j) : hB s j = false := by
  have e : s.getD j [] = [] := by
    rw [List.getD_eq_getElem?_getD, List.getElem?_eq_none hj]
    rfl
  unfold hB
  rw [e]
  rfl
theorem hB_rep (k j : Nat) : hB (List.replicate k [.b false]) j = false := by
  by_cases hj : j < k
  · have e : (List.replicate k [D.b false]).getD j [] = [D.b false] := by
      rw [List.getD_eq_getElem?_getD, List.getElem?_replicate, if_pos hj]
      rfl
    unfold hB
    rw [e]
    rfl
  · exact hB_ge (by rw [List.length_replicate]; omega)
theorem stepH_iff {i : Nat} {s : List (List D)} (hl : (lkT a i).toNat < s.length) (m : Nat) : hB (stepH a t r i s) m = true ↔ hB s m = true ∨ (lkT a i).toNat = m ∧ hB r (lkF a i).toNat = true ∧ tiB a t i = true := by
  unfold stepH
  by_cases c : (hB r (lkF a i).toNat && tiB a t i) = true
  · rw [if_pos c, hB_set hl]
    rw [Bool.and_eq_true] at c
    by_cases e : m = (lkT a i).toNat
    · rw [if_pos e]
      exact ⟨fun _ => .inr ⟨e.symm, c⟩, fun _ => rfl⟩
    · rw [if_neg e]
      exact ⟨.inl, fun h => h.elim id fun h => absurd h.1.symm e⟩
  · rw [if_neg c]
    rw [Bool.and_eq_true] at c
    exact ⟨.inl, fun h => h.elim id fun h => absurd h.2 c⟩
theorem passH_iff : ∀ (k i : Nat) {s : List (List D)}, (∀ j, i ≤ j → j < i + k → (lkT a j).toNat < s.length) → ∀ m, hB (passH a t r i k s) m = true ↔ hB s m = true ∨ ∃ j, i ≤ j ∧ j < i + k ∧ (lkT a j).toNat = m ∧ hB r (lkF a j).toNat = true ∧ tiB a t j = true
  | 0, i, s, _, m => ⟨.inl, fun h => h.elim id fun ⟨j, h1, h2, _⟩ => by omega⟩
  | k + 1, i, s, hl, m => by
    rw [passH, passH_iff k (i + 1) (fun j h1 h2 => by rw [len_stepH]; exact hl j (by omega) (by omega)), stepH_iff (hl i (Nat.le_refl _) (by omega))]
    constructor
    · rintro ((h | h) | ⟨j, h1, h2, h3⟩)
      · exact .inl h
      · exact .inr ⟨i, Nat.le_refl _, by omega, h⟩
      · exact .inr ⟨j, by omega, by omega, h3⟩
    · rintro (h | ⟨j, h1, h2, h3⟩)
      · exact .inl (.inl h)
      · by_cases e : j = i
        · subst e
          exact .inl (.inr h3)
        · exact .inr ⟨j, by omega, by omega, h3⟩
end
structure Early (n : Int) (a t : List (List D)) : Prop where
  good : goodL n a
  kept : (netN n a).kept (rg t)
  zero : rg t 0 = 0
  pos : ∀ j, 0 ≤ rg t j
  least : ∀ p : Nat → Int, (netN n a).kept p → (∀ j, 0 ≤ p j) → ∀ j, rg t j ≤ p j
  loose : ∀ j, j < n.toNat → ∃ i, i < a.length ∧ lkF a i = 0 ∧ lkT a i = j ∧ lkW a i = 0
section
variable {n : Int} {a t : List (List D)}
theorem Early.lt (E : Early n a t) {i : Nat} (hi : i < a.length) : (lkF a i).toNat < n.toNat ∧ (lkT a i).toNat < n.toNat := by
  have := E.good.2.2.2 i hi
  omega
theorem NO_neg : NO < 0 := by decide
theorem rg_row0 {m : Nat} (hm : m < n.toNat) : rg (rowW n a 0) m = if m = 0 then 0 else NO := by
  match m with
  | 0 => rfl
  | m + 1 =>
    rw [if_neg (by omega)]
    show rg (List.replicate (n.toNat - 1) [.i NO]) m = NO
    exact rg_rep (by omega)
theorem Early.row_le (E : Early n a t) : ∀ k m, rg (rowW n a k) m ≤ rg t m
  | 0, m => by
    by_cases hm : m < n.toNat
    · rw [rg_row0 hm]
      split
      · exact E.pos m
      · have := E.pos m
        have := NO_neg
        omega
    · rw [rg_ge (by rw [len_rowW E.good.1]; omega)]
      exact E.pos m
  | k + 1, m => by
    rw [rowW]
    refine passW_le _ _ (fun m => ?_) (fun j _ hj _ => ?_) m
    · by_cases hm : m < n.toNat
      · rw [rg_rep hm]
        have := E.pos m
        have := NO_neg
        omega
      · rw [rg_ge (by rw [List.length_replicate]; omega)]
        exact E.pos m
    · have h1 := E.row_le k (lkF a j).toNat
      have h2 : rg t (lkF a j).toNat + lkW a j ≤ rg t (lkT a j).toNat := E.kept j (show j < a.length by omega)
      omega
theorem Early.row_iff (E : Early n a t) : ∀ k m, m < n.toNat → (rg (rowW n a k) m = rg t m ↔ hB (rowH n a t k) m = true)
  | 0, m, hm => by
    rw [rg_row0 hm, rowH, hB_set (by rw [List.length_replicate]; omega)]
    by_cases e : m = 0
    · subst e
      rw [if_pos rfl, if_pos rfl, E.zero]
      exact ⟨fun _ => rfl, fun _ => rfl⟩
    · rw [if_neg e, if_neg e, hB_rep]
      have := E.pos m
      have := NO_neg
      exact ⟨fun h => by omega, fun h => by cases h⟩
  | k + 1, m, hm => by
    rw [rowH, passH_iff _ _ (fun j _ hj => by rw [List.length_replicate]; exact (E.lt (by omega)).2), hB_rep]
    rw [rowW]
    have hp := E.pos m
    have hN := NO_neg
    constructor
    · intro h
      rcases passW_or (a := a) (r := rowW n a k) a.length 0 (List.replicate n.toNat [.i NO]) m with g | ⟨j, g1, g2, g3, g4, g5⟩
      · rw [rg_rep hm] at g
        omega
      · right
        have hj : j < a.length := by omega
        have h1 := E.row_le k (lkF a j).toNat
        have h2 : rg t (lkF a j).toNat + lkW a j ≤ rg t (lkT a j).toNat := E.kept j hj
        rw [g3] at h2
        refine ⟨j, g1, g2, g3, (E.row_iff k _ (E.lt hj).1).1 (by omega), ?_⟩
        unfold tiB
        rw [g3, beq_iff_eq]
        omega
    · rintro (h | ⟨j, g1, g2, g3, g4, g5⟩)
      · cases h
      · have hj : j < a.length := by omega
        have h1 := (E.row_iff k _ (E.lt hj).1).2 g4
        have h2 := E.pos (lkF a j).toNat
        unfold tiB at g5
        rw [beq_iff_eq, g3] at g5
        have h3 := passW_at (a := a) (r := rowW n a k) a.length 0 (List.replicate n.toNat [.i NO]) j g1 g2 (by rw [List.length_replicate]; exact (E.lt hj).2) (by omega)
        rw [g3] at h3
        have h4 := E.row_le (k + 1) m
        rw [rowW] at h4
        omega
theorem Early.step (E : Early n a t) {k m : Nat} (_hm : m < n.toNat) : hB (rowH n a t (k + 1)) m = true ↔ ∃ j, j < a.length ∧ (lkT a j).toNat = m ∧ hB (rowH n a t k) (lkF a j).toNat = true ∧ tiB a t j = true := by
  rw [rowH, passH_iff _ _ (fun j _ hj => by rw [List.length_replicate]; exact (E.lt (by omega)).2), hB_rep]
  constructor
  · rintro (h | ⟨j, _, g2, g3⟩)
    · cases h
    · exact ⟨j, by omega, g3⟩
  · rintro ⟨j, g2, g3⟩
    exact .inr ⟨j, Nat.zero_le _, by omega, g3⟩
theorem Early.reach (E : Early n a t) {m : Nat} (hm : m < n.toNat) : ∃ k, hB (rowH n a t k) m = true := by
  apply Classical.byContradiction
  intro hno
  have hz : ∀ j, j < n.toNat → (¬ ∃ k, hB (rowH n a t k) j = true) → 1 ≤ rg t j := fun j hj hk => by
    apply Classical.byContradiction
    intro h1
    obtain ⟨i, i1, i2, i3, i4⟩ := E.loose j hj
    refine hk ⟨1, (E.step hj).2 ⟨i, i1, by omega, ?_, ?_⟩⟩
    · rw [i2, rowH, hB_set (by rw [List.length_replicate]; omega)]
      rfl
    · have := E.pos j
      unfold tiB
      rw [i2, i3, i4, beq_iff_eq, Int.toNat_natCast]
      show rg t 0 + 0 = rg t j
      rw [E.zero]
      omega
  let p : Nat → Int := fun j => @ite _ (j < n.toNat ∧ ¬ ∃ k, hB (rowH n a t k) j = true) (Classical.propDecidable _) (rg t j - 1) (rg t j)
  have hp1 : ∀ j, (j < n.toNat ∧ ¬ ∃ k, hB (rowH n a t k) j = true) → p j = rg t j - 1 := fun j h => if_pos h
  have hp2 : ∀ j, ¬ (j < n.toNat ∧ ¬ ∃ k, hB (rowH n a t k) j = true) → p j = rg t j := fun j h => if_neg h
  have h := E.least p (fun i hi => ?_) (fun j => ?_) m
  · rw [hp1 m ⟨hm, hno⟩] at h
    omega
  · have hk : rg t (lkF a i).toNat + lkW a i ≤ rg t (lkT a i).toNat := E.kept i hi
    show p (lkF a i).toNat + lkW a i ≤ p (lkT a i).toNat
    by_cases c1 : (lkF a i).toNat < n.toNat ∧ ¬ ∃ k, hB (rowH n a t k) (lkF a i).toNat = true
    · rw [hp1 _ c1]
      by_cases c2 : (lkT a i).toNat < n.toNat ∧ ¬ ∃ k, hB (rowH n a t k) (lkT a i).toNat = true
      · rw [hp1 _ c2]
        omega
      · rw [hp2 _ c2]
        omega
    · rw [hp2 _ c1]
      by_cases c2 : (lkT a i).toNat < n.toNat ∧ ¬ ∃ k, hB (rowH n a t k) (lkT a i).toNat = true
      · rw [hp1 _ c2]
        apply Classical.byContradiction
        intro hc
        obtain ⟨k, hk2⟩ : ∃ k, hB (rowH n a t k) (lkF a i).toNat = true := Classical.byContradiction fun hx => c1 ⟨(E.lt hi).1, hx⟩
        refine c2.2 ⟨k + 1, (E.step c2.1).2 ⟨i, hi, rfl, hk2, ?_⟩⟩
        unfold tiB
        rw [beq_iff_eq]
        omega
      · rw [hp2 _ c2]
        exact hk
  · by_cases c : j < n.toNat ∧ ¬ ∃ k, hB (rowH n a t k) j = true
    · rw [hp1 _ c]
      have := hz j c.1 c.2
      omega
    · rw [hp2 _ c]
      exact E.pos j
theorem least_of {p : Nat → Prop} (h : ∃ k, p k) : ∃ k, p k ∧ ∀ j, j < k → ¬ p j := by
  obtain ⟨k, hk⟩ := h
  induction k using Nat.strongRecOn with
  | ind k ih =>
    by_cases c : ∃ j, j < k ∧ p j
    · obtain ⟨j, j1, j2⟩ := c
      exact ih j j1 j2
    · exact ⟨k, hk, fun j hj hp => c ⟨j, hj, hp⟩⟩
def lvl (n : Int) (a t : List (List D)) (k m : Nat) : Prop := hB (rowH n a t k) m = true ∧ ∀ j, j < k → hB (rowH n a t j) m = false
theorem Early.chain (E : Early n a t) : ∀ (k m : Nat), m < n.toNat → lvl n a t k m → ∃ s : Nat → Nat, ∀ q, q ≤ k → s q < n.toNat ∧ lvl n a t q (s q)
  | 0, m, hm, h => ⟨fun _ => m, fun q hq => by
      obtain rfl : q = 0 := by omega
      exact ⟨hm, h⟩⟩
  | k + 1, m, hm, h => by
    obtain ⟨j, j1, j2, j3, j4⟩ := (E.step hm).1 h.1
    have hl : lvl n a t k (lkF a j).toNat := ⟨j3, fun q hq => by
      cases hb : hB (rowH n a t q) (lkF a j).toNat with
      | false => rfl
      | true =>
        have := h.2 (q + 1) (by omega)
        rw [(E.step hm).2 ⟨j, j1, j2, hb, j4⟩] at this
        cases this⟩
    obtain ⟨s, hs⟩ := E.chain k _ (E.lt j1).1 hl
    refine ⟨fun q => if q = k + 1 then m else s q, fun q hq => ?_⟩
    by_cases e : q = k + 1
    · subst e
      simp only [if_true]
      exact ⟨hm, h⟩
    · simp only [e, if_false]
      exact hs q (by omega)
theorem Early.reach_lt (E : Early n a t) {m : Nat} (hm : m < n.toNat) : ∃ k, k < n.toNat ∧ hB (rowH n a t k) m = true := by
  obtain ⟨k, h1, h2⟩ := least_of (E.reach hm)
  have hl : lvl n a t k m := ⟨h1, fun j hj => by
    cases hb : hB (rowH n a t j) m with
    | false => rfl
    | true => exact absurd hb (h2 j hj)⟩
  refine ⟨k, ?_, h1⟩
  apply Classical.byContradiction
  intro hk
  obtain ⟨s, hs⟩ := E.chain k m hm hl
  obtain ⟨x, y, e1, e2, e3⟩ := exists_rep (n := n.toNat) s fun q hq => (hs q (by omega)).1
  have g1 := (hs x (by omega)).2
  have g2 := (hs y (by omega)).2.2 x e1
  rw [← e3, g1.1] at g2
  cases g2
theorem Early.num_eq (E : Early n a t) {m : Nat} (hm : m < n.toNat) : numW n a t m = numH n a t m :=
  leastK_congr _ _ fun k => by
    have := E.row_iff k m hm
    cases hb : hB (rowH n a t k) m with
    | true => exact beq_iff_eq.2 (this.2 hb)
    | false =>
      cases he : (rg (rowW n a k) m == rg t m) with
      | false => rfl
      | true =>
        rw [this.1 (beq_iff_eq.1 he)] at hb
        cases hb
theorem Early.num_is (E : Early n a t) {m : Nat} (hm : m < n.toNat) : numH n a t m < n.toNat ∧ hB (rowH n a t (numH n a t m)) m = true ∧ ∀ i, i < numH n a t m → hB (rowH n a t i) m = false := by
  obtain ⟨k, k1, k2⟩ := E.reach_lt hm
  obtain ⟨b1, _, b3, b4⟩ := leastK_is (p := fun k => hB (rowH n a t k) m) n.toNat 0 k (Nat.zero_le _) (by omega) k2
  exact ⟨Nat.lt_of_le_of_lt b1 k1, b3, fun i hi => b4 i (Nat.zero_le _) hi⟩
theorem Early.at_is (E : Early n a t) {k : Nat} {m : Int} (h0 : 0 ≤ m) (hm : m < n) (h : hB (rowH n a t (k + 1)) m.toNat = true) : (0 ≤ atH n a t k m ∧ atH n a t k m < a.length) ∧ lkT a (atH n a t k m).toNat = m ∧ hB (rowH n a t k) (lkF a (atH n a t k m).toNat).toNat = true ∧ tiB a t (atH n a t k m).toNat = true := by
  obtain ⟨j, j1, j2, j3, j4⟩ := (E.step (by omega)).1 h
  have ht := (E.good.2.2.2 j j1).2.1
  have e : lkT a j = m := by omega
  obtain ⟨b1, b2, b3⟩ := firstFrom_is (p := fun i => lkT a i == m && (hB (rowH n a t k) (lkF a i).toNat && tiB a t i)) a.length 0 ⟨j, Nat.zero_le _, by omega, by simp only [e, j3, j4, beq_self_eq_true, Bool.and_self]⟩
  simp only [Bool.and_eq_true, beq_iff_eq] at b3
  exact ⟨⟨by unfold atH; omega, by unfold atH; omega⟩, b3⟩
theorem Early.at_eq (E : Early n a t) {k : Nat} {m : Int} (h0 : 0 ≤ m) (hm : m < n) (h : hB (rowH n a t (k + 1)) m.toNat = true) : atW n a k m = atH n a t k m := by
  have hw := (E.row_iff (k + 1) m.toNat (by omega)).2 h
  refine firstFrom_congr _ _ fun i _ hi => ?_
  have hi' : i < a.length := by omega
  show (lkT a i == m && _) = (lkT a i == m && _)
  cases he : lkT a i == m with
  | false => rfl
  | true =>
    rw [beq_iff_eq] at he
    rw [Bool.true_and, Bool.true_and, hw]
    have h1 := E.row_le k (lkF a i).toNat
    have h2 : rg t (lkF a i).toNat + lkW a i ≤ rg t (lkT a i).toNat := E.kept i hi'
    have h3 := E.row_iff k _ (E.lt hi').1
    have h4 := E.pos (lkF a i).toNat
    have h5 := NO_neg
    rw [he] at h2
    rw [Bool.eq_iff_iff]
    unfold tiB
    simp only [Bool.and_eq_true, decide_eq_true_eq, beq_iff_eq, ← h3, he]
    constructor
    · rintro ⟨g1, g2⟩
      exact ⟨by omega, by omega⟩
    · rintro ⟨g1, g2⟩
      exact ⟨by omega, by omega⟩
theorem Early.back_eq (E : Early n a t) : ∀ (k : Nat) (m : Int), 0 ≤ m → m < n → hB (rowH n a t k) m.toNat = true → backW n a k m = backH n a t k m
  | 0, _, _, _, _ => rfl
  | k + 1, m, h0, hm, h => by
    obtain ⟨⟨b1, b2⟩, _, b3, _⟩ := E.at_is h0 hm h
    have hg := (E.good.2.2.2 (atH n a t k m).toNat (by omega)).1
    rw [backW, backH, E.at_eq h0 hm h, E.back_eq k _ hg.1 hg.2 b3]
theorem len_backH : ∀ (k : Nat) (m : Int), (backH n a t k m).length = k
  | 0, _ => rfl
  | k + 1, m => by rw [backH, List.length_cons, len_backH k]
theorem weigh_app {a c d : List (List D)} : ∀ (k i : Nat) (s v : Int), i + k = c.length → (∀ s' w', weighF a c i k s v = (true, s', w') → weighF a (c ++ d) i k s v = (true, s', w')) := by
  intro k
  induction k with
  | zero => intro i s v _ s' w' h; exact h
  | succ k ih =>
    intro i s v hi s' w' h
    have e : rg (c ++ d) i = rg c i := by
      unfold rg
      rw [List.getD_eq_getElem?_getD, List.getElem?_append_left (by omega), ← List.getD_eq_getElem?_getD]
    simp only [weighF] at h ⊢
    rw [e]
    split at h
    · rename_i c1
      rw [if_pos c1]
      exact ih (i + 1) _ _ (by omega) s' w' h
    · cases h
theorem weigh_add {a c : List (List D)} : ∀ (k i : Nat) (s v s' w' : Int), weighF a c i k s v = (true, s', w') → weighF a c i (k + 1) s v = (if (0 ≤ rg c (i + k) ∧ rg c (i + k) ≤ (a.length : Int) - 1) ∧ lkF a (rg c (i + k)).toNat = w' then (true, s' + lkW a (rg c (i + k)).toNat, lkT a (rg c (i + k)).toNat) else (false, 0, 0))
  | 0, i, s, v, s', w', h => by
    simp only [weighF, Prod.mk.injEq, true_and] at h
    obtain ⟨rfl, rfl⟩ := h
    rfl
  | k + 1, i, s, v, s', w', h => by
    rw [weighF] at h ⊢
    split at h
    · rename_i c1
      rw [if_pos c1, weigh_add k (i + 1) _ _ s' w' h, show i + 1 + k = i + (k + 1) by omega]
    · cases h
theorem Early.weighs (E : Early n a t) : ∀ (k : Nat) (m : Int), 0 ≤ m → m < n → hB (rowH n a t k) m.toNat = true → weighF a (backH n a t k m).reverse 0 k 0 0 = (true, rg t m.toNat, m)
  | 0, m, h0, hm, h => by
    rw [rowH, hB_set (by rw [List.length_replicate]; omega), hB_rep] at h
    by_cases e : m.toNat = 0
    · have : m = 0 := by omega
      subst this
      show (true, (0 : Int), (0 : Int)) = (true, rg t 0, 0)
      rw [E.zero]
    · rw [if_neg e] at h
      cases h
  | k + 1, m, h0, hm, h => by
    obtain ⟨⟨b1, b2⟩, b3, b4, b5⟩ := E.at_is h0 hm h
    have hg := (E.good.2.2.2 (atH n a t k m).toNat (by omega)).1
    have ih := E.weighs k _ hg.1 hg.2 b4
    have hl : (backH n a t k (lkF a (atH n a t k m).toNat)).reverse.length = k := by rw [List.length_reverse, len_backH]
    rw [backH, List.reverse_cons]
    have h1 := weigh_app (a := a) (d := [[.i (atH n a t k m)]]) k 0 0 0 (by omega) _ _ ih
    rw [weigh_add k 0 0 0 _ _ h1]
    have e : rg ((backH n a t k (lkF a (atH n a t k m).toNat)).reverse ++ [[.i (atH n a t k m)]]) (0 + k) = atH n a t k m := by
      unfold rg
      rw [List.getD_eq_getElem?_getD, List.getElem?_append_right (by omega), hl, Nat.zero_add, Nat.sub_self]
      rfl
    rw [e, if_pos ⟨⟨b1, by omega⟩, rfl⟩, b3]
    unfold tiB at b5
    rw [beq_iff_eq, b3] at b5
    rw [b5]
end
theorem early_net {n : Int} {l : List (List D)} (hp : netP n l) (hr : (pushR n (allL n l) (zeros n)).2.2 < 0) : Early n (allL n l) (pushR n (allL n l) (zeros n)).1 where
  good := good_all hp
  kept := kept_push (good_all hp) (len_zeros n) hr
  zero := push_zero hp hr
  pos := fun j => by
    have := push_le (good_all hp) (len_zeros n) j
    rw [rg_zeros] at this
    exact this
  least := fun p hk h0 j => push_ub (good_all hp) (len_zeros n) hk (fun j => by rw [rg_zeros]; exact h0 j) j
  loose := fun j hj => ⟨l.length + j, by rw [len_allL]; omega, by
    unfold lkF lkT lkW
    rw [allL_get2 hj]
    exact ⟨rfl, rfl, rfl⟩⟩
noncomputable section
def rowD (R : List (List D)) (k : Nat) : List (List D) := lx (R.getD k []) 0
def endB (l r : List (List D)) (m v : Int) (i : Nat) : Bool := lkT l i == m && (decide (rg r (lkF l i).toNat > NO) && rg r (lkF l i).toNat + lkW l i == v)
def upR (r : List (List D)) : Prop := ∀ j, rg r j ≤ 4611686018427387904
def G52 (ds : List D) : T (List D) := match ds with
  | [f, t, w, m, r, k, v] => .need (yes ((0 ≤ k.I ∧ k.I < r.L.length) ∧ (0 ≤ f.I ∧ f.I < (rowD r.L k.I.toNat).length) ∧ upR (rowD r.L k.I.toNat) ∧ -1000000 ≤ w.I ∧ w.I ≤ 1000000))
      (.leaf [.b (t.I == m.I && (decide (rg (rowD r.L k.I.toNat) f.I.toNat > NO) && rg (rowD r.L k.I.toNat) f.I.toNat + w.I == v.I))])
  | _ => .fail
def G3051 (ds : List D) : T (List D) := match ds with
  | [l, m, r, k, v] => .need (yes ((0 ≤ k.I ∧ k.I < r.L.length) ∧ goodL (rowD r.L k.I.toNat).length l.L ∧ upR (rowD r.L k.I.toNat))) (.leaf [.i (firstFrom (endB l.L (rowD r.L k.I.toNat) m.I v.I) 0 l.L.length)])
  | _ => .fail
def G3051_2 (ds : List D) : T (Ex × List D) := match ds with
  | [l, m, r, k, v, c, i] => .need (yes ((0 ≤ k.I ∧ k.I < r.L.length) ∧ goodL (rowD r.L k.I.toNat).length l.L ∧ upR (rowD r.L k.I.toNat) ∧ c.I = l.L.length ∧ 0 ≤ i.I ∧ i.I ≤ l.L.length))
      (.ite (decide (firstFrom (endB l.L (rowD r.L k.I.toNat) m.I v.I) i.I.toNat (l.L.length - i.I.toNat) ≥ 0)) (.leaf (.ret, [.i (firstFrom (endB l.L (rowD r.L k.I.toNat) m.I v.I) i.I.toNat (l.L.length - i.I.toNat))])) (.leaf (.exit 0, [])))
  | _ => .fail
end
def s22 : Sig := ⟨[.k (.int .i64), .k (.ro [.int .i64, .int .i64, .int .i64]), .k (.ro [.int .i64]), .k (.int .i64)], [(.nils, []), (.sl 0 1, [.row [.int .i64]])]⟩
def l22_4 : LSig := mkLS [0, 2, 3, 9, 10] [(139, [(0, .k (.int .i64)), (2, .k (.ro [.int .i64])), (3, .k (.int .i64)), (9, .sl 0 3), (10, .sl 1 1)], [.row [.int .i64, .int .i64, .int .i64], .lst 1 [[.sl 2 1]], .row [.bool]]), (139, [(0, .k (.int .i64)), (2, .k (.ro [.int .i64])), (3, .k (.int .i64)), (9, .sl 0 3), (10, .sl 1 1)], [.row [.int .i64, .int .i64, .int .i64], .row [.ro [.bool]]])] [(.exit 0, [2, 3, 9, 10], [(139, [(2, .k (.ro [.int .i64])), (3, .k (.int .i64)), (9, .sl 0 3), (10, .sl 1 1)], [.row [.int .i64, .int .i64, .int .i64], .row [.ro [.bool]]])])]
def l22_7 : LSig := mkLS [0, 2, 3, 9, 10, 11, 12] [(139, [(0, .k (.int .i64)), (2, .k (.ro [.int .i64])), (3, .k (.int .i64)), (9, .sl 0 3), (10, .sl 1 1), (11, .sl 2 1), (12, .k (.int .i64))], [.row [.int .i64, .int .i64, .int .i64], .row [.ro [.bool]], .row [.bool]])] [(.exit 2, [0, 2, 3, 9, 10, 11], [(139, [(0, .k (.int .i64)), (2, .k (.ro [.int .i64])), (3, .k (.int .i64)), (9, .sl 0 3), (10, .sl 1 1), (11, .sl 2 1)], [.row [.int .i64, .int .i64, .int .i64], .row [.ro [.bool]], .row [.bool]])])]
def l22_15 : LSig := mkLS [2, 3, 9, 10, 14, 15] [(139, [(2, .k (.ro [.int .i64])), (3, .k (.int .i64)), (9, .sl 0 3), (10, .sl 1 1), (14, .nils), (15, .k (.int .i64))], [.row [.int .i64, .int .i64, .int .i64], .row [.ro [.bool]]]), (139, [(2, .k (.ro [.int .i64])), (3, .k (.int .i64)), (9, .sl 0 3), (10, .sl 1 1), (14, .sl 2 1), (15, .k (.int .i64))], [.row [.int .i64, .int .i64, .int .i64], .row [.ro [.bool]], .row [.int .i64]])] [(.exit 4, [14], [(139, [(14, .nils)], []), (139, [(14, .sl 0 1)], [.row [.int .i64]])])]
def l22_18 : LSig := mkLS [2, 3, 9, 10, 14, 15, 16] [(139, [(2, .k (.ro [.int .i64])), (3, .k (.int .i64)), (9, .sl 0 3), (10, .sl 1 1), (14, .nils), (15, .k (.int .i64)), (16, .k (.int .i64))], [.row [.int .i64, .int .i64, .int .i64], .row [.ro [.bool]]]), (139, [(2, .k (.ro [.int .i64])), (3, .k (.int .i64)), (9, .sl 0 3), (10, .sl 1 1), (14, .sl 2 1), (15, .k (.int .i64)), (16, .k (.int .i64))], [.row [.int .i64, .int .i64, .int .i64], .row [.ro [.bool]], .row [.int .i64]])] [(.exit 6, [2, 3, 9, 10, 14, 15], [(139, [(2, .k (.ro [.int .i64])), (3, .k (.int .i64)), (9, .sl 0 3), (10, .sl 1 1), (14, .sl 2 1), (15, .k (.int .i64))], [.row [.int .i64, .int .i64, .int .i64], .row [.ro [.bool]], .row [.int .i64]]), (139, [(2, .k (.ro [.int .i64])), (3, .k (.int .i64)), (9, .sl 0 3), (10, .sl 1 1), (14, .nils), (15, .k (.int .i64))], [.row [.int .i64, .int .i64, .int .i64], .row [.ro [.bool]]])])]
noncomputable section
def rowsH (n : Int) (a t : List (List D)) : Nat → List (List D)
  | 0 => [[.l (rowH n a t 0)]]
  | k + 1 => rowsH n a t k ++ [[.l (rowH n a t (k + 1))]]
def okN (n : Int) (a t : List (List D)) : Prop := goodL n a ∧ (t.length : Int) = n ∧ ∀ j, 0 ≤ rg t j ∧ rg t j ≤ 4611686018427387904
def endH (a t r : List (List D)) (m : Int) (i : Nat) : Bool := lkT a i == m && (hB r (lkF a i).toNat && tiB a t i)
def reaH (n : Int) (a t : List (List D)) (k : Nat) (m : Int) : List (List D) := (backH n a t k m).reverse
def G22_7 (ds : List D) : T (Ex × List D) := match ds with
  | [n, t, m, c, d, e, i, a, H, r] => .need (yes (okN n.I a.L t.L ∧ c.I = a.L.length ∧ d.I = H.L.length ∧ (1 ≤ H.L.length ∧ H.L.length ≤ 1000) ∧ e.I = n.I ∧ (r.L.length : Int) = n.I ∧ ((rowD H.L (H.L.length - 1)).length : Int) = n.I ∧ 0 ≤ i.I ∧ i.I ≤ a.L.length))
      (.leaf (.exit 2, [.i n.I, .l t.L, .i m.I, .i a.L.length, .i H.L.length, .i n.I, .l a.L, .l H.L, .l (passH a.L t.L (rowD H.L (H.L.length - 1)) i.I.toNat (a.L.length - i.I.toNat) r.L)]))
  | _ => .fail
def G22_4 (ds : List D) : T (Ex × List D) := match ds with
  | [j, n, t, m, c, d, a, H] => .need (yes (j.I = 1 ∧ okN n.I a.L t.L ∧ Early n.I a.L t.L ∧ (0 ≤ m.I ∧ m.I < n.I) ∧ c.I = a.L.length ∧ d.I = H.L.length ∧ 1 ≤ H.L.length ∧ H.L = rowsH n.I a.L t.L (H.L.length - 1) ∧ H.L.length ≤ numH n.I a.L t.L m.I.toNat + 1))
      (.leaf (.exit 0, [.l t.L, .i m.I, .i a.L.length, .i (rowsH n.I a.L t.L (numH n.I a.L t.L m.I.toNat)).length, .l a.L, .l (rowsH n.I a.L t.L (numH n.I a.L t.L m.I.toNat))]))
  | [j, n, t, m, c, d, a, x, r] => .need (yes (j.I = 0 ∧ okN n.I a.L t.L ∧ Early n.I a.L t.L ∧ (0 ≤ m.I ∧ m.I < n.I) ∧ c.I = a.L.length ∧ d.I = 1 ∧ x.I = n.I ∧ r.L = rowH n.I a.L t.L 0))
      (.leaf (.exit 0, [.l t.L, .i m.I, .i a.L.length, .i (rowsH n.I a.L t.L (numH n.I a.L t.L m.I.toNat)).length, .l a.L, .l (rowsH n.I a.L t.L (numH n.I a.L t.L m.I.toNat))]))
  | _ => .fail
def lastH (a t r : List (List D)) (m i : Int) : Int := firstFrom (endH a t r m) i.toNat (a.length - i.toNat)
def G22_18 (ds : List D) : T (Ex × List D) := match ds with
  | [j, t, m, c, d, k, i, a, H] => .need (yes (j.I = 0 ∧ okN t.L.length a.L t.L ∧ (0 ≤ m.I ∧ m.I < t.L.length) ∧ c.I = a.L.length ∧ d.I = H.L.length ∧ (1 ≤ k.I ∧ k.I < H.L.length ∧ k.I ≤ 1000) ∧ (rowD H.L (k.I - 1).toNat).length = t.L.length ∧ (0 ≤ i.I ∧ i.I ≤ a.L.length) ∧ 0 ≤ lastH a.L t.L (rowD H.L (k.I - 1).toNat) m.I i.I))
      (.leaf (.exit 6, [.i 0, .l t.L, .i (lkF a.L (lastH a.L t.L (rowD H.L (k.I - 1).toNat) m.I i.I).toNat), .i a.L.length, .i H.L.length, .i 1, .i k.I, .l a.L, .l H.L, .l [[.i (lastH a.L t.L (rowD H.L (k.I - 1).toNat) m.I i.I)]]]))
  | [j, t, m, c, d, e, k, i, a, H, o] => .need (yes (j.I = 1 ∧ okN t.L.length a.L t.L ∧ (0 ≤ m.I ∧ m.I < t.L.length) ∧ c.I = a.L.length ∧ d.I = H.L.length ∧ e.I = o.L.length ∧ o.L.length ≤ 1000 ∧ (1 ≤ k.I ∧ k.I < H.L.length ∧ k.I ≤ 1000) ∧ (rowD H.L (k.I - 1).toNat).length = t.L.length ∧ (0 ≤ i.I ∧ i.I ≤ a.L.length) ∧ 0 ≤ lastH a.L t.L (rowD H.L (k.I - 1).toNat) m.I i.I))
      (.leaf (.exit 6, [.i 0, .l t.L, .i (lkF a.L (lastH a.L t.L (rowD H.L (k.I - 1).toNat) m.I i.I).toNat), .i a.L.length, .i H.L.length, .i (([.i (lastH a.L t.L (rowD H.L (k.I - 1).toNat) m.I i.I)] :: o.L).length), .i k.I, .l a.L, .l H.L, .l ([.i (lastH a.L t.L (rowD H.L (k.I - 1).toNat) m.I i.I)] :: o.L)]))
  | _ => .fail
def G22_15 (ds : List D) : T (Ex × List D) := match ds with
  | [j, t, m, c, d, k, a, H] => .need (yes (j.I = 0 ∧ okN t.L.length a.L t.L ∧ Early t.L.length a.L t.L ∧ (0 ≤ m.I ∧ m.I < t.L.length) ∧ c.I = a.L.length ∧ d.I = H.L.length ∧ (1 ≤ H.L.length ∧ H.L.length ≤ 600) ∧ H.L = rowsH t.L.length a.L t.L (H.L.length - 1) ∧ (0 ≤ k.I ∧ k.I < H.L.length) ∧ hB (rowH t.L.length a.L t.L k.I.toNat) m.I.toNat = true))
      (.ite (decide (k.I = 0)) (.leaf (.exit 4, [.i 0])) (.leaf (.exit 4, [.i 1, .i (reaH t.L.length a.L t.L k.I.toNat m.I).length, .l (reaH t.L.length a.L t.L k.I.toNat m.I)])))
  | [j, t, m, c, d, e, k, a, H, o] => .need (yes (j.I = 1 ∧ okN t.L.length a.L t.L ∧ Early t.L.length a.L t.L ∧ (0 ≤ m.I ∧ m.I < t.L.length) ∧ c.I = a.L.length ∧ d.I = H.L.length ∧ (1 ≤ H.L.length ∧ H.L.length ≤ 600) ∧ e.I = o.L.length ∧ o.L.length + k.I ≤ 1000 ∧ H.L = rowsH t.L.length a.L t.L (H.L.length - 1) ∧ (0 ≤ k.I ∧ k.I < H.L.length) ∧ hB (rowH t.L.length a.L t.L k.I.toNat) m.I.toNat = true))
      (.leaf (.exit 4, [.i 1, .i (reaH t.L.length a.L t.L k.I.toNat m.I ++ o.L).length, .l (reaH t.L.length a.L t.L k.I.toNat m.I ++ o.L)]))
  | _ => .fail
def G22 (ds : List D) : T (List D) := match ds with
  | [n, l, t, m] => .need (yes (netP n.I l.L ∧ okN n.I (allL n.I l.L) t.L ∧ Early n.I (allL n.I l.L) t.L ∧ (0 ≤ m.I ∧ m.I < n.I)))
      (.ite (decide (numH n.I (allL n.I l.L) t.L m.I.toNat = 0)) (.leaf [.i 0]) (.leaf [.i 1, .i (reaH n.I (allL n.I l.L) t.L (numH n.I (allL n.I l.L) t.L m.I.toNat) m.I).length, .l (reaH n.I (allL n.I l.L) t.L (numH n.I (allL n.I l.L) t.L m.I.toNat) m.I)]))
  | _ => .fail
end
noncomputable section
def rowsW (n : Int) (a : List (List D)) : Nat → List (List D)
  | 0 => [[.l (rowW n a 0)]]
  | k + 1 => rowsW n a k ++ [[.l (rowW n a (k + 1))]]
def fill0 (n i : Nat) : List (List D) := [D.i 0] :: (List.replicate (i - 1) [.i NO] ++ List.replicate (n - i) [.i 0])
def fillN (n i : Nat) : List (List D) := List.replicate i [.i NO] ++ List.replicate (n - i) [.i 0]
def someT (n : Int) (a : List (List D)) (k : Nat) (m : Int) : Prop := ∃ t, okN n a t ∧ Early n a t ∧ hB (rowH n a t k) m.toNat = true
def G17_9 (ds : List D) : T (Ex × List D) := match ds with
  | [j, n, e, i, m, v, c, t, d, a, x, r] => .need (yes (j.I = 0 ∧ (1 ≤ n.I ∧ n.I ≤ 500) ∧ (1 ≤ i.I ∧ i.I ≤ n.I) ∧ d.I = 1 ∧ x.I = n.I ∧ r.L = fill0 n.I.toNat i.I.toNat))
      (.leaf (.exit 0, [.i n.I, .i e.I.toNat, .i m.I, .i v.I, .i c.I.toNat, .l t.L, .i 1, .l a.L, .i n.I.toNat, .l (rowW n.I a.L 0)]))
  | _ => .fail
def G17_12 (ds : List D) : T (Ex × List D) := match ds with
  | [j, n, e, m, v, c, t, d, a, R] => .need (yes (j.I = 1 ∧ okN n.I a.L t.L ∧ Early n.I a.L t.L ∧ (0 ≤ m.I ∧ m.I < n.I) ∧ e.I = n.I ∧ c.I = a.L.length ∧ d.I = R.L.length ∧ 1 ≤ R.L.length ∧ R.L = rowsW n.I a.L (R.L.length - 1) ∧ R.L.length ≤ numW n.I a.L t.L m.I.toNat + 1))
      (.leaf (.exit 2, [.i 1, .i m.I, .i v.I, .i a.L.length, .i (rowsW n.I a.L (numW n.I a.L t.L m.I.toNat)).length, .l a.L, .l (rowsW n.I a.L (numW n.I a.L t.L m.I.toNat))]))
  | [j, n, e, m, v, c, t, d, a, x, r] => .need (yes (j.I = 0 ∧ okN n.I a.L t.L ∧ Early n.I a.L t.L ∧ (0 ≤ m.I ∧ m.I < n.I) ∧ e.I = n.I ∧ c.I = a.L.length ∧ d.I = 1 ∧ x.I = n.I ∧ r.L = rowW n.I a.L 0))
      (.ite (decide (numW n.I a.L t.L m.I.toNat = 0)) (.leaf (.exit 2, [.i 0, .i m.I, .i v.I, .i a.L.length, .i 1, .l a.L, .i n.I.toNat, .l (rowW n.I a.L 0)]))
        (.leaf (.exit 2, [.i 1, .i m.I, .i v.I, .i a.L.length, .i (rowsW n.I a.L (numW n.I a.L t.L m.I.toNat)).length, .l a.L, .l (rowsW n.I a.L (numW n.I a.L t.L m.I.toNat))])))
  | _ => .fail
def G17_15 (ds : List D) : T (Ex × List D) := match ds with
  | [n, e, f, w, i, m, v, c, t, d, s, a, R] => .need (yes ((1 ≤ n.I ∧ n.I ≤ 500) ∧ f.I = n.I ∧ w.I = n.I ∧ (0 ≤ i.I ∧ i.I ≤ n.I) ∧ s.L = fillN n.I.toNat i.I.toNat))
      (.leaf (.exit 4, [.i n.I, .i e.I.toNat, .i n.I.toNat, .i m.I, .i v.I, .i c.I.toNat, .l t.L, .i d.I.toNat, .l (List.replicate n.I.toNat [.i NO]), .l a.L, .l R.L]))
  | _ => .fail
def G17_21 (ds : List D) : T (Ex × List D) := match ds with
  | [n, e, f, q, g, w, i, m, v, c, t, d, s, a, R] => .need (yes (goodL n.I a.L ∧ upR q.L ∧ (q.L.length : Int) = n.I ∧ g.I = a.L.length ∧ w.I = a.L.length ∧ f.I = n.I ∧ (s.L.length : Int) = n.I ∧ (0 ≤ i.I ∧ i.I ≤ a.L.length)))
      (.leaf (.exit 6, [.i n.I, .i e.I.toNat, .i n.I.toNat, .i m.I, .i v.I, .i c.I.toNat, .l t.L, .i d.I.toNat, .l (passW a.L q.L i.I.toNat (a.L.length - i.I.toNat) s.L), .l a.L, .l R.L]))
  | _ => .fail
def G17_29 (ds : List D) : T (Ex × List D) := match ds with
  | [j, m, v, c, d, k, a, R] => .need (yes (j.I = 0 ∧ goodL v.I a.L ∧ (0 ≤ m.I ∧ m.I < v.I) ∧ c.I = a.L.length ∧ d.I = R.L.length ∧ (1 ≤ R.L.length ∧ R.L.length ≤ 600) ∧ R.L = rowsW v.I a.L (R.L.length - 1) ∧ (-1 ≤ k.I ∧ k.I < R.L.length - 1) ∧ someT v.I a.L (k.I + 1).toNat m.I))
      (.ite (decide (k.I < 0)) (.leaf (.exit 8, [.i 0])) (.leaf (.exit 8, [.i 1, .i (backW v.I a.L (k.I + 1).toNat m.I).length, .l (backW v.I a.L (k.I + 1).toNat m.I)])))
  | [j, z, m, v, c, d, o, k, a, R] => .need (yes (j.I = 1 ∧ z.I = o.L.length ∧ o.L.length + k.I ≤ 1000 ∧ goodL v.I a.L ∧ (0 ≤ m.I ∧ m.I < v.I) ∧ c.I = a.L.length ∧ d.I = R.L.length ∧ (1 ≤ R.L.length ∧ R.L.length ≤ 600) ∧ R.L = rowsW v.I a.L (R.L.length - 1) ∧ (-1 ≤ k.I ∧ k.I < R.L.length - 1) ∧ someT v.I a.L (k.I + 1).toNat m.I))
      (.leaf (.exit 8, [.i 1, .i (o.L ++ backW v.I a.L (k.I + 1).toNat m.I).length, .l (o.L ++ backW v.I a.L (k.I + 1).toNat m.I)]))
  | _ => .fail
def earlT (n : Int) (l : List (List D)) : List (List D) := (pushR n (allL n l) (zeros n)).1
def chainW (n : Int) (l : List (List D)) (m : Int) : List (List D) := backW n (allL n l) (numW n (allL n l) (earlT n l) m.toNat) m
def G1053 (ds : List D) : T (List D) := match ds with
  | [] => .leaf []
  | _ => .fail
def G17 (ds : List D) : T (List D) := match ds with
  | [n, l, m] => .need (yes (l.L.length < big)) (.ite (netOk n.I l.L && Lite.within m.I 0 (n.I - 1))
      (.ite (decide ((pushR n.I (allL n.I l.L) (zeros n.I)).2.2 < 0))
        (.ite (decide (numW n.I (allL n.I l.L) (earlT n.I l.L) m.I.toNat = 0)) (.leaf [.i 0, .i 0]) (.leaf [.i 1, .i (chainW n.I l.L m.I).length, .i 0, .l (revR 0 (chainW n.I l.L m.I).length (chainW n.I l.L m.I))]))
        (.leaf [.i 0, .i 5]))
      (.leaf [.i 0, .i 2]))
  | _ => .fail
end
def s3 : Sig := ⟨[.k (.int .i64), .k (.ro [.int .i64, .int .i64, .int .i64]), .k (.int .i64)], [(.k .bool, [])]⟩
def s16 : Sig := ⟨[], [(.k .bool, [])]⟩
noncomputable def sp3 : SpL := [(15, mkF s15 G15), (16, mkF s16 G16), (17, mkF s17 G17), (18, mkF s18 G18), (19, mkF s19 G19), (20, mkF s20 G20), (22, mkF s22 G22), (21, mkF s21 G21)]
noncomputable def lp3 : LpL := []
noncomputable def sw3 : SwL := []
noncomputable def tab3 : Tab := mkTab sp3 lp3 sw3
set_option linter.unusedVariables false
set_option maxRecDepth 100000
theorem t3 (a b c : D) : (fnT C tab3 3 s3 [a, b, c]).run =
  T.run (T.ite (!fewB a.I b.L) (T.leaf [D.b true]) (T.need (yes (b.L.length < big)) (T.ite (netOk a.I b.L && within c.I (0 : Int) (a.I - (1 : Int))) (T.ite (decide ((pushR a.I (allL a.I b.L) (zeros a.I)).snd.snd < (0 : Int))) (T.ite (decide (numW a.I (allL a.I b.L) (earlT a.I b.L) c.I.toNat = 0)) (T.need (yes (b.L.length < big)) (T.ite (!netOk a.I b.L) (T.leaf [D.b false]) (T.ite (decide (c.I < (0 : Int))) (T.leaf [D.b false]) (T.ite (decide (c.I ≥ a.I)) (T.leaf [D.b false]) (T.need (yes (netP a.I b.L)) (T.ite (!refOk a.I b.L (zeros a.I)) (T.leaf [D.b false]) (T.need (yes (netP a.I b.L ∧ List.length ([] : List (List D)) ≤ 1000000)) (T.need (decide (a.I.toNat ≤ List.length (refR a.I b.L (zeros a.I)).fst)) (T.need (yes (netP a.I b.L ∧ okN a.I (allL a.I b.L) (List.take a.I.toNat (refR a.I b.L (zeros a.I)).fst) ∧ Early a.I (allL a.I b.L) (List.take a.I.toNat (refR a.I b.L (zeros a.I)).fst) ∧ (0 : Int) ≤ c.I ∧ c.I < a.I)) (T.ite (decide (numH a.I (allL a.I b.L) (List.take a.I.toNat (refR a.I b.L (zeros a.I)).fst) c.I.toNat = 0)) (T.need (yes (List.length ([] : List (List D)) < big)) (T.ite ((0 : Int) == c.I) (T.need (decide ((0 : Int) ≤ c.I ∧ c.I < (a.I.toNat : Int))) (T.need (decide (c.I.toNat < List.length (refR a.I b.L (zeros a.I)).fst)) (T.ite ((0 : Int) == D.I (List.getD (List.getD (refR a.I b.L (zeros a.I)).fst c.I.toNat []) 0 default)) (T.leaf [D.b true]) (T.leaf [D.b false])))) (T.leaf [D.b false]))) (T.need (decide (Int.toNat (↑(List.length (reaH a.I (allL a.I b.L) (List.take a.I.toNat (refR a.I b.L (zeros a.I)).fst) (numH a.I (allL a.I b.L) (List.take a.I.toNat (refR a.I b.L (zeros a.I)).fst) c.I.toNat) c.I)) : Int) ≤ List.length (reaH a.I (allL a.I b.L) (List.take a.I.toNat (refR a.I b.L (zeros a.I)).fst) (numH a.I (allL a.I b.L) (List.take a.I.toNat (refR a.I b.L (zeros a.I)).fst) c.I.toNat) c.I))) (T.need (yes (List.length ([] : List (List D)) < big)) (T.ite (sameR [] (List.take (Int.toNat (↑(List.length (reaH a.I (allL a.I b.L) (List.take a.I.toNat (refR a.I b.L (zeros a.I)).fst) (numH a.I (allL a.I b.L) (List.take a.I.toNat (refR a.I b.L (zeros a.I)).fst) c.I.toNat) c.I)) : Int)) (reaH a.I (allL a.I b.L) (List.take a.I.toNat (refR a.I b.L (zeros a.I)).fst) (numH a.I (allL a.I b.L) (List.take a.I.toNat (refR a.I b.L (zeros a.I)).fst) c.I.toNat) c.I))) (T.ite ((0 : Int) == c.I) (T.need (decide ((0 : Int) ≤ c.I ∧ c.I < (a.I.toNat : Int))) (T.need (decide (c.I.toNat < List.length (refR a.I b.L (zeros a.I)).fst)) (T.ite ((0 : Int) == D.I (List.getD (List.getD (refR a.I b.L (zeros a.I)).fst c.I.toNat []) 0 default)) (T.leaf [D.b true]) (T.leaf [D.b false])))) (T.leaf [D.b false])) (T.leaf [D.b false])))))))))))))) (T.need (yes (b.L.length < big)) (T.ite (!netOk a.I b.L) (T.leaf [D.b false]) (T.ite (decide (c.I < (0 : Int))) (T.leaf [D.b false]) (T.ite (decide (c.I ≥ a.I)) (T.leaf [D.b false]) (T.need (yes (netP a.I b.L)) (T.ite (!refOk a.I b.L (zeros a.I)) (T.leaf [D.b false]) (T.need (decide (Int.toNat (↑(List.length (chainW a.I b.L c.I)) : Int) ≤ List.length (revR 0 (List.length (chainW a.I b.L c.I)) (chainW a.I b.L c.I)))) (T.need (yes (netP a.I b.L ∧ List.length (List.take (Int.toNat (↑(List.length (chainW a.I b.L c.I)) : Int)) (revR 0 (List.length (chainW a.I b.L c.I)) (chainW a.I b.L c.I))) ≤ 1000000)) (T.need (decide (a.I.toNat ≤ List.length (refR a.I b.L (zeros a.I)).fst)) (T.need (yes (netP a.I b.L ∧ okN a.I (allL a.I b.L) (List.take a.I.toNat (refR a.I b.L (zeros a.I)).fst) ∧ Early a.I (allL a.I b.L) (List.take a.I.toNat (refR a.I b.L (zeros a.I)).fst) ∧ (0 : Int) ≤ c.I ∧ c.I < a.I)) (T.ite (decide (numH a.I (allL a.I b.L) (List.take a.I.toNat (refR a.I b.L (zeros a.I)).fst) c.I.toNat = 0)) (T.need (decide (Int.toNat (↑(List.length (chainW a.I b.L c.I)) : Int) ≤ List.length (revR 0 (List.length (chainW a.I b.L c.I)) (chainW a.I b.L c.I)))) (T.need (yes (List.length (List.take (Int.toNat (↑(List.length (chainW a.I b.L c.I)) : Int)) (revR 0 (List.length (chainW a.I b.L c.I)) (chainW a.I b.L c.I))) < big)) (T.ite (sameR (List.take (Int.toNat (↑(List.length (chainW a.I b.L c.I)) : Int)) (revR 0 (List.length (chainW a.I b.L c.I)) (chainW a.I b.L c.I))) []) (T.ite (weighF (allL a.I b.L) (List.take (Int.toNat (↑(List.length (chainW a.I b.L c.I)) : Int)) (revR 0 (List.length (chainW a.I b.L c.I)) (chainW a.I b.L c.I))) 0 (List.length (List.take (Int.toNat (↑(List.length (chainW a.I b.L c.I)) : Int)) (revR 0 (List.length (chainW a.I b.L c.I)) (chainW a.I b.L c.I)))) (0 : Int) (0 : Int)).fst (T.ite ((weighF (allL a.I b.L) (List.take (Int.toNat (↑(List.length (chainW a.I b.L c.I)) : Int)) (revR 0 (List.length (chainW a.I b.L c.I)) (chainW a.I b.L c.I))) 0 (List.length (List.take (Int.toNat (↑(List.length (chainW a.I b.L c.I)) : Int)) (revR 0 (List.length (chainW a.I b.L c.I)) (chainW a.I b.L c.I)))) (0 : Int) (0 : Int)).snd.snd == c.I) (T.need (decide ((0 : Int) ≤ c.I ∧ c.I < (a.I.toNat : Int))) (T.need (decide (c.I.toNat < List.length (refR a.I b.L (zeros a.I)).fst)) (T.ite ((weighF (allL a.I b.L) (List.take (Int.toNat (↑(List.length (chainW a.I b.L c.I)) : Int)) (revR 0 (List.length (chainW a.I b.L c.I)) (chainW a.I b.L c.I))) 0 (List.length (List.take (Int.toNat (↑(List.length (chainW a.I b.L c.I)) : Int)) (revR 0 (List.length (chainW a.I b.L c.I)) (chainW a.I b.L c.I)))) (0 : Int) (0 : Int)).snd.fst == D.I (List.getD (List.getD (refR a.I b.L (zeros a.I)).fst c.I.toNat []) 0 default)) (T.leaf [D.b true]) (T.leaf [D.b false])))) (T.leaf [D.b false])) (T.leaf [D.b false])) (T.leaf [D.b false])))) (T.need (decide (Int.toNat (↑(List.length (chainW a.I b.L c.I)) : Int) ≤ List.length (revR 0 (List.length (chainW a.I b.L c.I)) (chainW a.I b.L c.I)))) (T.need (decide (Int.toNat (↑(List.length (reaH a.I (allL a.I b.L) (List.take a.I.toNat (refR a.I b.L (zeros a.I)).fst) (numH a.I (allL a.I b.L) (List.take a.I.toNat (refR a.I b.L (zeros a.I)).fst) c.I.toNat) c.I)) : Int) ≤ List.length (reaH a.I (allL a.I b.L) (List.take a.I.toNat (refR a.I b.L (zeros a.I)).fst) (numH a.I (allL a.I b.L) (List.take a.I.toNat (refR a.I b.L (zeros a.I)).fst) c.I.toNat) c.I))) (T.need (yes (List.length (List.take (Int.toNat (↑(List.length (chainW a.I b.L c.I)) : Int)) (revR 0 (List.length (chainW a.I b.L c.I)) (chainW a.I b.L c.I))) < big)) (T.ite (sameR (List.take (Int.toNat (↑(List.length (chainW a.I b.L c.I)) : Int)) (revR 0 (List.length (chainW a.I b.L c.I)) (chainW a.I b.L c.I))) (List.take (Int.toNat (↑(List.length (reaH a.I (allL a.I b.L) (List.take a.I.toNat (refR a.I b.L (zeros a.I)).fst) (numH a.I (allL a.I b.L) (List.take a.I.toNat (refR a.I b.L (zeros a.I)).fst) c.I.toNat) c.I)) : Int)) (reaH a.I (allL a.I b.L) (List.take a.I.toNat (refR a.I b.L (zeros a.I)).fst) (numH a.I (allL a.I b.L) (List.take a.I.toNat (refR a.I b.L (zeros a.I)).fst) c.I.toNat) c.I))) (T.ite (weighF (allL a.I b.L) (List.take (Int.toNat (↑(List.length (chainW a.I b.L c.I)) : Int)) (revR 0 (List.length (chainW a.I b.L c.I)) (chainW a.I b.L c.I))) 0 (List.length (List.take (Int.toNat (↑(List.length (chainW a.I b.L c.I)) : Int)) (revR 0 (List.length (chainW a.I b.L c.I)) (chainW a.I b.L c.I)))) (0 : Int) (0 : Int)).fst (T.ite ((weighF (allL a.I b.L) (List.take (Int.toNat (↑(List.length (chainW a.I b.L c.I)) : Int)) (revR 0 (List.length (chainW a.I b.L c.I)) (chainW a.I b.L c.I))) 0 (List.length (List.take (Int.toNat (↑(List.length (chainW a.I b.L c.I)) : Int)) (revR 0 (List.length (chainW a.I b.L c.I)) (chainW a.I b.L c.I)))) (0 : Int) (0 : Int)).snd.snd == c.I) (T.need (decide ((0 : Int) ≤ c.I ∧ c.I < (a.I.toNat : Int))) (T.need (decide (c.I.toNat < List.length (refR a.I b.L (zeros a.I)).fst)) (T.ite ((weighF (allL a.I b.L) (List.take (Int.toNat (↑(List.length (chainW a.I b.L c.I)) : Int)) (revR 0 (List.length (chainW a.I b.L c.I)) (chainW a.I b.L c.I))) 0 (List.length (List.take (Int.toNat (↑(List.length (chainW a.I b.L c.I)) : Int)) (revR 0 (List.length (chainW a.I b.L c.I)) (chainW a.I b.L c.I)))) (0 : Int) (0 : Int)).snd.fst == D.I (List.getD (List.getD (refR a.I b.L (zeros a.I)).fst c.I.toNat []) 0 default)) (T.leaf [D.b true]) (T.leaf [D.b false])))) (T.leaf [D.b false])) (T.leaf [D.b false])) (T.leaf [D.b false]))))))))))))))))) (T.need (yes (b.L.length < big)) (T.ite (!netOk a.I b.L) (T.leaf [D.b false]) (T.ite (decide (c.I < (0 : Int))) (T.leaf [D.b false]) (T.ite (decide (c.I ≥ a.I)) (T.leaf [D.b false]) (T.need (yes (netP a.I b.L)) (T.ite (!refOk a.I b.L (zeros a.I)) (T.leaf [D.b true]) (T.need (yes (netP a.I b.L ∧ List.length ([] : List (List D)) ≤ 1000000)) (T.leaf [D.b false]))))))))) (T.need (yes (b.L.length < big)) (T.ite (!netOk a.I b.L) (T.leaf [D.b true]) (T.ite (decide (c.I < (0 : Int))) (T.leaf [D.b true]) (T.ite (decide (c.I ≥ a.I)) (T.leaf [D.b true]) (T.need (yes (netP a.I b.L)) (T.ite (!refOk a.I b.L (zeros a.I)) (T.leaf [D.b false]) (T.need (yes (netP a.I b.L ∧ List.length ([] : List (List D)) ≤ 1000000)) (T.leaf [D.b false]))))))))))) := by kernel_rfl
def mkFWs : List (SigW × (List D → T (List D))) → List SV → SHeap → T (SV × SHeap)
  | [], _, _ => .fail
  | p :: r, args, h => match fitsVs p.1.args args, fitsH p.1.hin h with
    | some a, some b => (p.2 (a ++ b)).map (headR p.1.res)
    | _, _ => mkFWs r args h
def ManyW (C : Cfg) (n : Nat) (f : FuncId) : List (SigW × (List D → T (List D))) → Prop
  | [] => True
  | p :: r => FnOKW C n f (mkFW p.1 p.2) ∧ ManyW C n f r
theorem many_ok {C : Cfg} {n : Nat} {f : FuncId} : ∀ {l : List (SigW × (List D → T (List D)))}, ManyW C n f l → FnOKW C n f (mkFWs l)
  | [], _ => fun args h v hb hv => by cases hv
  | p :: r, hl => fun args h v hb hv avs h0 h1 h2 S H s => by
    unfold mkFWs at hv
    split at hv
    · rename_i a b e1 e2
      exact hl.1 args h v hb (by unfold mkFW; rw [e1, e2]; exact hv) avs h0 h1 h2 S H s
    · exact many_ok hl.2 args h v hb hv avs h0 h1 h2 S H s
noncomputable def sp17 : SpL := [(47, mkF s47 G47), (48, mkF s48 G48), (49, mkF s49 G49), (50, mkF s50 G50), (51, mkF s3051 G3051)]
noncomputable def lp17 : LpL := [(9, mkL l17_9 G17_9), (12, mkL l17_12 G17_12), (15, mkL l17_15 G17_15), (21, mkL l17_21 G17_21), (29, mkL l17_29 G17_29)]
noncomputable def sw17 : SwL := [(53, mkFWs [(s53, G53), (s1053, G1053)])]
noncomputable def tab17 : Tab := mkTab sp17 lp17 sw17
set_option linter.unusedVariables false
set_option maxRecDepth 100000
theorem t17 (a b c : D) : (fnT C tab17 17 s17 [a, b, c]).run =
  T.run (T.need (yes (b.L.length < big)) (T.ite (!netOk a.I b.L) (T.leaf [D.i 0, D.i 2]) (T.ite (!within c.I (0 : Int) (IntKind.wrap IntKind.i64 (a.I - (1 : Int)))) (T.leaf [D.i 0, D.i 2]) (T.need (yes (netP a.I b.L)) (T.need (decide (Int.toNat (↑(List.length (allL a.I b.L)) : Int) ≤ List.length (allL a.I b.L))) (T.need (yes (goodL a.I (List.take (Int.toNat (↑(List.length (allL a.I b.L)) : Int)) (allL a.I b.L)) ∧ a.I ≤ (↑(List.length (List.take (Int.toNat (↑(List.length (allL a.I b.L)) : Int)) (allL a.I b.L))) : Int))) (T.ite (decide ((pushR a.I (List.take (Int.toNat (↑(List.length (allL a.I b.L)) : Int)) (allL a.I b.L)) (zeros a.I)).snd.snd < (0 : Int))) (T.need (decide ((0 : Int) ≤ a.I ∧ a.I = a.I ∧ a.I ≤ (2 : Int) ^ 40 ∧ (↑Try.prog.types[3].bytes : Int) * a.I ≤ (2 : Int) ^ 46)) (T.need (yes ((↑0 : Int) = (0 : Int) ∧ ((1 : Int) ≤ a.I ∧ a.I ≤ (500 : Int)) ∧ ((1 : Int) ≤ (1 : Int) ∧ (1 : Int) ≤ a.I) ∧ (↑1 : Int) = (1 : Int) ∧ (↑(List.length (List.replicate a.I.toNat [D.i 0])) : Int) = a.I ∧ List.replicate a.I.toNat [D.i 0] = fill0 a.I.toNat (Int.toNat (1 : Int)))) (T.need (yes ((↑0 : Int) = (0 : Int) ∧ okN a.I (allL a.I b.L) (pushR a.I (List.take (Int.toNat (↑(List.length (allL a.I b.L)) : Int)) (allL a.I b.L)) (zeros a.I)).fst ∧ Early a.I (allL a.I b.L) (pushR a.I (List.take (Int.toNat (↑(List.length (allL a.I b.L)) : Int)) (allL a.I b.L)) (zeros a.I)).fst ∧ ((0 : Int) ≤ c.I ∧ c.I < a.I) ∧ (↑(Int.toNat (↑(Int.toNat (a.I.toNat : Int)) : Int)) : Int) = a.I ∧ (↑(Int.toNat (↑(Int.toNat (↑(Int.toNat (↑(List.length (allL a.I b.L)) : Int)) : Int)) : Int)) : Int) = (↑(List.length (allL a.I b.L)) : Int) ∧ (↑(Int.toNat (1 : Int)) : Int) = (1 : Int) ∧ (↑(Int.toNat (a.I.toNat : Int)) : Int) = a.I ∧ rowW a.I (allL a.I b.L) 0 = rowW a.I (allL a.I b.L) 0)) (T.ite (decide (numW a.I (allL a.I b.L) (pushR a.I (List.take (Int.toNat (↑(List.length (allL a.I b.L)) : Int)) (allL a.I b.L)) (zeros a.I)).fst c.I.toNat = 0)) (T.need (decide (Int.toNat (a.I.toNat : Int) ≤ List.length (rowW a.I (allL a.I b.L) 0))) (T.need (yes ((↑0 : Int) = (0 : Int) ∧ goodL a.I (allL a.I b.L) ∧ ((0 : Int) ≤ c.I ∧ c.I < a.I) ∧ (↑(Int.toNat (↑(List.length (allL a.I b.L)) : Int)) : Int) = (↑(List.length (allL a.I b.L)) : Int) ∧ (↑(Int.toNat (1 : Int)) : Int) = (↑(List.length [[D.l (List.take (Int.toNat (a.I.toNat : Int)) (rowW a.I (allL a.I b.L) 0))]]) : Int) ∧ (1 ≤ List.length [[D.l (List.take (Int.toNat (a.I.toNat : Int)) (rowW a.I (allL a.I b.L) 0))]] ∧ List.length [[D.l (List.take (Int.toNat (a.I.toNat : Int)) (rowW a.I (allL a.I b.L) 0))]] ≤ 600) ∧ [[D.l (List.take (Int.toNat (a.I.toNat : Int)) (rowW a.I (allL a.I b.L) 0))]] = rowsW a.I (allL a.I b.L) (List.length [[D.l (List.take (Int.toNat (a.I.toNat : Int)) (rowW a.I (allL a.I b.L) 0))]] - 1) ∧ ((-1 : Int) ≤ IntKind.wrap IntKind.i64 ((↑(Int.toNat (1 : Int)) : Int) - (2 : Int)) ∧ IntKind.wrap IntKind.i64 ((↑(Int.toNat (1 : Int)) : Int) - (2 : Int)) < (↑(List.length [[D.l (List.take (Int.toNat (a.I.toNat : Int)) (rowW a.I (allL a.I b.L) 0))]]) : Int) - (1 : Int)) ∧ someT a.I (allL a.I b.L) (Int.toNat (IntKind.wrap IntKind.i64 ((↑(Int.toNat (1 : Int)) : Int) - (2 : Int)) + (1 : Int))) c.I)) (T.leaf [D.i 0, D.i 0]))) (T.need (yes ((↑0 : Int) = (0 : Int) ∧ goodL a.I (allL a.I b.L) ∧ ((0 : Int) ≤ c.I ∧ c.I < a.I) ∧ (↑(Int.toNat (↑(List.length (allL a.I b.L)) : Int)) : Int) = (↑(List.length (allL a.I b.L)) : Int) ∧ (↑(Int.toNat (↑(List.length (rowsW a.I (allL a.I b.L) (numW a.I (allL a.I b.L) (pushR a.I (List.take (Int.toNat (↑(List.length (allL a.I b.L)) : Int)) (allL a.I b.L)) (zeros a.I)).fst c.I.toNat))) : Int)) : Int) = (↑(List.length (rowsW a.I (allL a.I b.L) (numW a.I (allL a.I b.L) (pushR a.I (List.take (Int.toNat (↑(List.length (allL a.I b.L)) : Int)) (allL a.I b.L)) (zeros a.I)).fst c.I.toNat))) : Int) ∧ (1 ≤ List.length (rowsW a.I (allL a.I b.L) (numW a.I (allL a.I b.L) (pushR a.I (List.take (Int.toNat (↑(List.length (allL a.I b.L)) : Int)) (allL a.I b.L)) (zeros a.I)).fst c.I.toNat)) ∧ List.length (rowsW a.I (allL a.I b.L) (numW a.I (allL a.I b.L) (pushR a.I (List.take (Int.toNat (↑(List.length (allL a.I b.L)) : Int)) (allL a.I b.L)) (zeros a.I)).fst c.I.toNat)) ≤ 600) ∧ rowsW a.I (allL a.I b.L) (numW a.I (allL a.I b.L) (pushR a.I (List.take (Int.toNat (↑(List.length (allL a.I b.L)) : Int)) (allL a.I b.L)) (zeros a.I)).fst c.I.toNat) = rowsW a.I (allL a.I b.L) (List.length (rowsW a.I (allL a.I b.L) (numW a.I (allL a.I b.L) (pushR a.I (List.take (Int.toNat (↑(List.length (allL a.I b.L)) : Int)) (allL a.I b.L)) (zeros a.I)).fst c.I.toNat)) - 1) ∧ ((-1 : Int) ≤ IntKind.wrap IntKind.i64 ((↑(Int.toNat (↑(List.length (rowsW a.I (allL a.I b.L) (numW a.I (allL a.I b.L) (pushR a.I (List.take (Int.toNat (↑(List.length (allL a.I b.L)) : Int)) (allL a.I b.L)) (zeros a.I)).fst c.I.toNat))) : Int)) : Int) - (2 : Int)) ∧ IntKind.wrap IntKind.i64 ((↑(Int.toNat (↑(List.length (rowsW a.I (allL a.I b.L) (numW a.I (allL a.I b.L) (pushR a.I (List.take (Int.toNat (↑(List.length (allL a.I b.L)) : Int)) (allL a.I b.L)) (zeros a.I)).fst c.I.toNat))) : Int)) : Int) - (2 : Int)) < (↑(List.length (rowsW a.I (allL a.I b.L) (numW a.I (allL a.I b.L) (pushR a.I (List.take (Int.toNat (↑(List.length (allL a.I b.L)) : Int)) (allL a.I b.L)) (zeros a.I)).fst c.I.toNat))) : Int) - (1 : Int)) ∧ someT a.I (allL a.I b.L) (Int.toNat (IntKind.wrap IntKind.i64 ((↑(Int.toNat (↑(List.length (rowsW a.I (allL a.I b.L) (numW a.I (allL a.I b.L) (pushR a.I (List.take (Int.toNat (↑(List.length (allL a.I b.L)) : Int)) (allL a.I b.L)) (zeros a.I)).fst c.I.toNat))) : Int)) : Int) - (2 : Int)) + (1 : Int))) c.I)) (T.ite (decide (IntKind.wrap IntKind.i64 ((↑(Int.toNat (↑(List.length (rowsW a.I (allL a.I b.L) (numW a.I (allL a.I b.L) (pushR a.I (List.take (Int.toNat (↑(List.length (allL a.I b.L)) : Int)) (allL a.I b.L)) (zeros a.I)).fst c.I.toNat))) : Int)) : Int) - (2 : Int)) < (0 : Int))) (T.leaf [D.i 0, D.i 0]) (T.need (yes ((↑(Int.toNat (↑(List.length (backW a.I (allL a.I b.L) (Int.toNat (IntKind.wrap IntKind.i64 ((↑(Int.toNat (↑(List.length (rowsW a.I (allL a.I b.L) (numW a.I (allL a.I b.L) (pushR a.I (List.take (Int.toNat (↑(List.length (allL a.I b.L)) : Int)) (allL a.I b.L)) (zeros a.I)).fst c.I.toNat))) : Int)) : Int) - (2 : Int)) + (1 : Int))) c.I)) : Int)) : Int) = (↑(List.length (backW a.I (allL a.I b.L) (Int.toNat (IntKind.wrap IntKind.i64 ((↑(Int.toNat (↑(List.length (rowsW a.I (allL a.I b.L) (numW a.I (allL a.I b.L) (pushR a.I (List.take (Int.toNat (↑(List.length (allL a.I b.L)) : Int)) (allL a.I b.L)) (zeros a.I)).fst c.I.toNat))) : Int)) : Int) - (2 : Int)) + (1 : Int))) c.I)) : Int) ∧ List.length (backW a.I (allL a.I b.L) (Int.toNat (IntKind.wrap IntKind.i64 ((↑(Int.toNat (↑(List.length (rowsW a.I (allL a.I b.L) (numW a.I (allL a.I b.L) (pushR a.I (List.take (Int.toNat (↑(List.length (allL a.I b.L)) : Int)) (allL a.I b.L)) (zeros a.I)).fst c.I.toNat))) : Int)) : Int) - (2 : Int)) + (1 : Int))) c.I) ≤ 1000000)) (T.leaf [D.i 1, D.i (↑(Int.toNat (↑(List.length (backW a.I (allL a.I b.L) (Int.toNat (IntKind.wrap IntKind.i64 ((↑(Int.toNat (↑(List.length (rowsW a.I (allL a.I b.L) (numW a.I (allL a.I b.L) (pushR a.I (List.take (Int.toNat (↑(List.length (allL a.I b.L)) : Int)) (allL a.I b.L)) (zeros a.I)).fst c.I.toNat))) : Int)) : Int) - (2 : Int)) + (1 : Int))) c.I)) : Int)) : Int), D.i 0, D.l (revR 0 (List.length (backW a.I (allL a.I b.L) (Int.toNat (IntKind.wrap IntKind.i64 ((↑(Int.toNat (↑(List.length (rowsW a.I (allL a.I b.L) (numW a.I (allL a.I b.L) (pushR a.I (List.take (Int.toNat (↑(List.length (allL a.I b.L)) : Int)) (allL a.I b.L)) (zeros a.I)).fst c.I.toNat))) : Int)) : Int) - (2 : Int)) + (1 : Int))) c.I)) (backW a.I (allL a.I b.L) (Int.toNat (IntKind.wrap IntKind.i64 ((↑(Int.toNat (↑(List.length (rowsW a.I (allL a.I b.L) (numW a.I (allL a.I b.L) (pushR a.I (List.take (Int.toNat (↑(List.length (allL a.I b.L)) : Int)) (allL a.I b.L)) (zeros a.I)).fst c.I.toNat))) : Int)) : Int) - (2 : Int)) + (1 : Int))) c.I))])))))))) (T.leaf [D.i 0, D.i 5])))))))) := by kernel_rfl
theorem t17_9_0 (a b c d e f g h i j k : D) : (roundT C tab17 17 (loopOf C.P 17 9) l17_9 [.i 0, a, b, c, d, e, f, g, h, i, j, k]).run =
  T.run (T.ite (decide (c.I < a.I)) (T.need (decide ((0 : Int) ≤ (0 : Int) ∧ (0 : Int) < (h.I.toNat : Int))) (T.need (decide ((0 : Int) ≤ c.I ∧ c.I < (j.I.toNat : Int))) (T.need (decide (c.I.toNat < k.L.length)) (T.leaf (Rd.again [D.i 0, D.i a.I, D.i (b.I.toNat : Int), D.i (IntKind.wrap IntKind.i64 (c.I + (1 : Int))), D.i d.I, D.i e.I, D.i (f.I.toNat : Int), D.l g.L, D.i (h.I.toNat : Int), D.l i.L, D.i (j.I.toNat : Int), D.l (List.set k.L c.I.toNat (updC (List.getD k.L c.I.toNat []) [D.i (-4611686018427387904 : Int)] 0 0 (List.length [K.int IntKind.i64])))]))))) (T.leaf (Rd.out (Ex.exit 0) [D.i a.I, D.i (b.I.toNat : Int), D.i d.I, D.i e.I, D.i (f.I.toNat : Int), D.l g.L, D.i (h.I.toNat : Int), D.l i.L, D.i (j.I.toNat : Int), D.l k.L]))) := by kernel_rfl
theorem t17_12_0 (a b c d e f g h i j : D) : (roundT C tab17 17 (loopOf C.P 17 12) l17_12 [.i 0, a, b, c, d, e, f, g, h, i, j]).run =
  T.run (T.need (decide ((0 : Int) ≤ IntKind.wrap IntKind.i64 ((g.I.toNat : Int) - (1 : Int)) ∧ IntKind.wrap IntKind.i64 ((g.I.toNat : Int) - (1 : Int)) < (g.I.toNat : Int))) (T.need (decide ((↑(Int.toNat (IntKind.wrap IntKind.i64 ((g.I.toNat : Int) - (1 : Int)))) : Int) = (↑0 : Int))) (T.need (decide ((0 : Int) ≤ c.I ∧ c.I < (i.I.toNat : Int))) (T.need (decide (c.I.toNat < j.L.length)) (T.need (decide ((0 : Int) ≤ c.I ∧ c.I < (b.I.toNat : Int))) (T.need (decide (c.I.toNat < f.L.length)) (T.ite (D.I (List.getD (List.getD j.L c.I.toNat []) 0 default) != D.I (List.getD (List.getD f.L c.I.toNat []) 0 default)) (T.need (decide (i.I.toNat ≤ j.L.length)) (T.need (decide ((0 : Int) ≤ a.I ∧ a.I = a.I ∧ a.I ≤ (2 : Int) ^ 40 ∧ (↑Try.prog.types[3].bytes : Int) * a.I ≤ (2 : Int) ^ 46)) (T.need (yes (((1 : Int) ≤ a.I ∧ a.I ≤ (500 : Int)) ∧ (↑(List.length (List.replicate a.I.toNat [D.i 0])) : Int) = a.I ∧ (↑(List.length (List.replicate a.I.toNat [D.i 0])) : Int) = a.I ∧ ((0 : Int) ≤ (0 : Int) ∧ (0 : Int) ≤ a.I) ∧ List.replicate a.I.toNat [D.i 0] = fillN a.I.toNat (Int.toNat (0 : Int)))) (T.need (decide ((0 : Int) ≤ IntKind.wrap IntKind.i64 ((↑(Int.toNat (↑(Int.toNat (g.I.toNat : Int)) : Int)) : Int) - (1 : Int)) ∧ IntKind.wrap IntKind.i64 ((↑(Int.toNat (↑(Int.toNat (g.I.toNat : Int)) : Int)) : Int) - (1 : Int)) < (↑(Int.toNat (↑(Int.toNat (g.I.toNat : Int)) : Int)) : Int))) (T.need (decide (Int.toNat (IntKind.wrap IntKind.i64 ((↑(Int.toNat (↑(Int.toNat (g.I.toNat : Int)) : Int)) : Int) - (1 : Int))) < List.length [[D.l (List.take i.I.toNat j.L)]])) (T.need (yes (goodL a.I h.L ∧ upR (D.L (List.getD (List.getD [[D.l (List.take i.I.toNat j.L)]] (Int.toNat (IntKind.wrap IntKind.i64 ((↑(Int.toNat (↑(Int.toNat (g.I.toNat : Int)) : Int)) : Int) - (1 : Int)))) []) 0 default)) ∧ (↑(List.length (D.L (List.getD (List.getD [[D.l (List.take i.I.toNat j.L)]] (Int.toNat (IntKind.wrap IntKind.i64 ((↑(Int.toNat (↑(Int.toNat (g.I.toNat : Int)) : Int)) : Int) - (1 : Int)))) []) 0 default))) : Int) = a.I ∧ (↑(Int.toNat (↑(Int.toNat (e.I.toNat : Int)) : Int)) : Int) = (h.L.length : Int) ∧ (↑(Int.toNat (↑(Int.toNat (e.I.toNat : Int)) : Int)) : Int) = (h.L.length : Int) ∧ (↑(Int.toNat (a.I.toNat : Int)) : Int) = a.I ∧ (↑(List.length (List.replicate a.I.toNat [D.i NO])) : Int) = a.I ∧ (0 : Int) ≤ (0 : Int) ∧ (0 : Int) ≤ (h.L.length : Int))) (T.need (decide (Int.toNat (a.I.toNat : Int) ≤ List.length (passW h.L (D.L (List.getD (List.getD [[D.l (List.take i.I.toNat j.L)]] (Int.toNat (IntKind.wrap IntKind.i64 ((↑(Int.toNat (↑(Int.toNat (g.I.toNat : Int)) : Int)) : Int) - (1 : Int)))) []) 0 default)) (Int.toNat (0 : Int)) (h.L.length - Int.toNat (0 : Int)) (List.replicate a.I.toNat [D.i NO])))) (T.need (decide (Int.toNat (↑(Int.toNat (↑(Int.toNat (↑(Int.toNat (g.I.toNat : Int)) : Int)) : Int)) : Int) ≤ List.length [[D.l (List.take i.I.toNat j.L)]] ∧ Int.toNat (↑(Int.toNat (↑(Int.toNat (↑(Int.toNat (g.I.toNat : Int)) : Int)) : Int)) : Int) + 1 ≤ 2 ^ 62 ∧ (Int.toNat (↑(Int.toNat (↑(Int.toNat (↑(Int.toNat (g.I.toNat : Int)) : Int)) : Int)) : Int) + 1) * Try.prog.types[25].bytes ≤ 2 ^ 47)) (T.leaf (Rd.again [D.i 1, D.i a.I, D.i (↑(Int.toNat (↑(Int.toNat (↑(Int.toNat (↑(Int.toNat (b.I.toNat : Int)) : Int)) : Int)) : Int)) : Int), D.i c.I, D.i d.I, D.i (↑(Int.toNat (↑(Int.toNat (↑(Int.toNat (↑(Int.toNat (e.I.toNat : Int)) : Int)) : Int)) : Int)) : Int), D.l f.L, D.i (↑(Int.toNat (↑(Int.toNat (↑(Int.toNat (↑(Int.toNat (g.I.toNat : Int)) : Int)) : Int)) : Int) + 1) : Int), D.l h.L, D.l (List.take (Int.toNat (↑(Int.toNat (↑(Int.toNat (↑(Int.toNat (g.I.toNat : Int)) : Int)) : Int)) : Int)) [[D.l (List.take i.I.toNat j.L)]] ++ List.take (List.length [[D.l (List.take (Int.toNat (a.I.toNat : Int)) (passW h.L (D.L (List.getD (List.getD [[D.l (List.take i.I.toNat j.L)]] (Int.toNat (IntKind.wrap IntKind.i64 ((↑(Int.toNat (↑(Int.toNat (g.I.toNat : Int)) : Int)) : Int) - (1 : Int)))) []) 0 default)) (Int.toNat (0 : Int)) (h.L.length - Int.toNat (0 : Int)) (List.replicate a.I.toNat [D.i NO])))]]) [[D.l (List.take (Int.toNat (a.I.toNat : Int)) (passW h.L (D.L (List.getD (List.getD [[D.l (List.take i.I.toNat j.L)]] (Int.toNat (IntKind.wrap IntKind.i64 ((↑(Int.toNat (↑(Int.toNat (g.I.toNat : Int)) : Int)) : Int) - (1 : Int)))) []) 0 default)) (Int.toNat (0 : Int)) (h.L.length - Int.toNat (0 : Int)) (List.replicate a.I.toNat [D.i NO])))]])])))))))))) (T.leaf (Rd.out (Ex.exit 2) [D.i 0, D.i c.I, D.i d.I, D.i (e.I.toNat : Int), D.i (g.I.toNat : Int), D.l h.L, D.i (i.I.toNat : Int), D.l j.L]))))))))) := by kernel_rfl
theorem t17_12_1 (a b c d e f g h i : D) : (roundT C tab17 17 (loopOf C.P 17 12) l17_12 [.i 1, a, b, c, d, e, f, g, h, i]).run =
  T.run (T.need (decide ((0 : Int) ≤ IntKind.wrap IntKind.i64 ((g.I.toNat : Int) - (1 : Int)) ∧ IntKind.wrap IntKind.i64 ((g.I.toNat : Int) - (1 : Int)) < (g.I.toNat : Int))) (T.need (decide (Int.toNat (IntKind.wrap IntKind.i64 ((g.I.toNat : Int) - (1 : Int))) < i.L.length)) (T.need (decide ((0 : Int) ≤ c.I ∧ c.I < (↑(List.length (D.L (List.getD (List.getD i.L (Int.toNat (IntKind.wrap IntKind.i64 ((g.I.toNat : Int) - (1 : Int)))) []) 0 default))) : Int))) (T.need (decide ((0 : Int) ≤ c.I ∧ c.I < (b.I.toNat : Int))) (T.need (decide (c.I.toNat < f.L.length)) (T.ite (D.I (List.getD (List.getD (D.L (List.getD (List.getD i.L (Int.toNat (IntKind.wrap IntKind.i64 ((g.I.toNat : Int) - (1 : Int)))) []) 0 default)) c.I.toNat []) 0 default) != D.I (List.getD (List.getD f.L c.I.toNat []) 0 default)) (T.need (decide ((0 : Int) ≤ a.I ∧ a.I = a.I ∧ a.I ≤ (2 : Int) ^ 40 ∧ (↑Try.prog.types[3].bytes : Int) * a.I ≤ (2 : Int) ^ 46)) (T.need (yes (((1 : Int) ≤ a.I ∧ a.I ≤ (500 : Int)) ∧ (↑(List.length (List.replicate a.I.toNat [D.i 0])) : Int) = a.I ∧ (↑(List.length (List.replicate a.I.toNat [D.i 0])) : Int) = a.I ∧ ((0 : Int) ≤ (0 : Int) ∧ (0 : Int) ≤ a.I) ∧ List.replicate a.I.toNat [D.i 0] = fillN a.I.toNat (Int.toNat (0 : Int)))) (T.need (decide ((0 : Int) ≤ IntKind.wrap IntKind.i64 ((↑(Int.toNat (↑(Int.toNat (g.I.toNat : Int)) : Int)) : Int) - (1 : Int)) ∧ IntKind.wrap IntKind.i64 ((↑(Int.toNat (↑(Int.toNat (g.I.toNat : Int)) : Int)) : Int) - (1 : Int)) < (↑(Int.toNat (↑(Int.toNat (g.I.toNat : Int)) : Int)) : Int))) (T.need (decide (Int.toNat (IntKind.wrap IntKind.i64 ((↑(Int.toNat (↑(Int.toNat (g.I.toNat : Int)) : Int)) : Int) - (1 : Int))) < i.L.length)) (T.need (yes (goodL a.I h.L ∧ upR (D.L (List.getD (List.getD i.L (Int.toNat (IntKind.wrap IntKind.i64 ((↑(Int.toNat (↑(Int.toNat (g.I.toNat : Int)) : Int)) : Int) - (1 : Int)))) []) 0 default)) ∧ (↑(List.length (D.L (List.getD (List.getD i.L (Int.toNat (IntKind.wrap IntKind.i64 ((↑(Int.toNat (↑(Int.toNat (g.I.toNat : Int)) : Int)) : Int) - (1 : Int)))) []) 0 default))) : Int) = a.I ∧ (↑(Int.toNat (↑(Int.toNat (e.I.toNat : Int)) : Int)) : Int) = (h.L.length : Int) ∧ (↑(Int.toNat (↑(Int.toNat (e.I.toNat : Int)) : Int)) : Int) = (h.L.length : Int) ∧ (↑(Int.toNat (a.I.toNat : Int)) : Int) = a.I ∧ (↑(List.length (List.replicate a.I.toNat [D.i NO])) : Int) = a.I ∧ (0 : Int) ≤ (0 : Int) ∧ (0 : Int) ≤ (h.L.length : Int))) (T.need (decide (Int.toNat (a.I.toNat : Int) ≤ List.length (passW h.L (D.L (List.getD (List.getD i.L (Int.toNat (IntKind.wrap IntKind.i64 ((↑(Int.toNat (↑(Int.toNat (g.I.toNat : Int)) : Int)) : Int) - (1 : Int)))) []) 0 default)) (Int.toNat (0 : Int)) (h.L.length - Int.toNat (0 : Int)) (List.replicate a.I.toNat [D.i NO])))) (T.need (decide (Int.toNat (↑(Int.toNat (↑(Int.toNat (↑(Int.toNat (g.I.toNat : Int)) : Int)) : Int)) : Int) ≤ i.L.length ∧ Int.toNat (↑(Int.toNat (↑(Int.toNat (↑(Int.toNat (g.I.toNat : Int)) : Int)) : Int)) : Int) + 1 ≤ 2 ^ 62 ∧ (Int.toNat (↑(Int.toNat (↑(Int.toNat (↑(Int.toNat (g.I.toNat : Int)) : Int)) : Int)) : Int) + 1) * Try.prog.types[25].bytes ≤ 2 ^ 47)) (T.leaf (Rd.again [D.i 1, D.i a.I, D.i (↑(Int.toNat (↑(Int.toNat (↑(Int.toNat (↑(Int.toNat (b.I.toNat : Int)) : Int)) : Int)) : Int)) : Int), D.i c.I, D.i d.I, D.i (↑(Int.toNat (↑(Int.toNat (↑(Int.toNat (↑(Int.toNat (e.I.toNat : Int)) : Int)) : Int)) : Int)) : Int), D.l f.L, D.i (↑(Int.toNat (↑(Int.toNat (↑(Int.toNat (↑(Int.toNat (g.I.toNat : Int)) : Int)) : Int)) : Int) + 1) : Int), D.l h.L, D.l (List.take (Int.toNat (↑(Int.toNat (↑(Int.toNat (↑(Int.toNat (g.I.toNat : Int)) : Int)) : Int)) : Int)) i.L ++ List.take (List.length [[D.l (List.take (Int.toNat (a.I.toNat : Int)) (passW h.L (D.L (List.getD (List.getD i.L (Int.toNat (IntKind.wrap IntKind.i64 ((↑(Int.toNat (↑(Int.toNat (g.I.toNat : Int)) : Int)) : Int) - (1 : Int)))) []) 0 default)) (Int.toNat (0 : Int)) (h.L.length - Int.toNat (0 : Int)) (List.replicate a.I.toNat [D.i NO])))]]) [[D.l (List.take (Int.toNat (a.I.toNat : Int)) (passW h.L (D.L (List.getD (List.getD i.L (Int.toNat (IntKind.wrap IntKind.i64 ((↑(Int.toNat (↑(Int.toNat (g.I.toNat : Int)) : Int)) : Int) - (1 : Int)))) []) 0 default)) (Int.toNat (0 : Int)) (h.L.length - Int.toNat (0 : Int)) (List.replicate a.I.toNat [D.i NO])))]])]))))))))) (T.leaf (Rd.out (Ex.exit 2) [D.i 1, D.i c.I, D.i d.I, D.i (e.I.toNat : Int), D.i (g.I.toNat : Int), D.l h.L, D.l i.L])))))))) := by kernel_rfl
theorem t17_15 (a b c d e f g h i j k l m : D) : (roundT C tab17 17 (loopOf C.P 17 15) l17_15 [a, b, c, d, e, f, g, h, i, j, k, l, m]).run =
  T.run (T.ite (decide (e.I < d.I)) (T.need (decide ((0 : Int) ≤ e.I ∧ e.I < (c.I.toNat : Int))) (T.need (decide (e.I.toNat < k.L.length)) (T.leaf (Rd.again [D.i a.I, D.i (b.I.toNat : Int), D.i (c.I.toNat : Int), D.i d.I, D.i (IntKind.wrap IntKind.i64 (e.I + (1 : Int))), D.i f.I, D.i g.I, D.i (h.I.toNat : Int), D.l i.L, D.i (j.I.toNat : Int), D.l (List.set k.L e.I.toNat (updC (List.getD k.L e.I.toNat []) [D.i (-4611686018427387904 : Int)] 0 0 (List.length [K.int IntKind.i64]))), D.l l.L, D.l m.L])))) (T.leaf (Rd.out (Ex.exit 4) [D.i a.I, D.i (b.I.toNat : Int), D.i (c.I.toNat : Int), D.i f.I, D.i g.I, D.i (h.I.toNat : Int), D.l i.L, D.i (j.I.toNat : Int), D.l k.L, D.l l.L, D.l m.L]))) := by kernel_rfl
theorem t17_21 (a b c d e f g h i j k l m n o : D) : (roundT C tab17 17 (loopOf C.P 17 21) l17_21 [a, b, c, d, e, f, g, h, i, j, k, l, m, n, o]).run =
  T.run (T.ite (decide (g.I < f.I)) (T.need (decide ((0 : Int) ≤ g.I ∧ g.I < (e.I.toNat : Int))) (T.need (decide (g.I.toNat < n.L.length)) (T.need (decide ((0 : Int) ≤ D.I (List.getD (List.getD n.L g.I.toNat []) 0 default) ∧ D.I (List.getD (List.getD n.L g.I.toNat []) 0 default) < (d.L.length : Int))) (T.ite (decide (D.I (List.getD (List.getD d.L (Int.toNat (D.I (List.getD (List.getD n.L g.I.toNat []) 0 default))) []) 0 default) > (-4611686018427387904 : Int))) (T.need (decide ((0 : Int) ≤ D.I (List.getD (List.getD n.L g.I.toNat []) (0 + 1) default) ∧ D.I (List.getD (List.getD n.L g.I.toNat []) (0 + 1) default) < (c.I.toNat : Int))) (T.need (decide (Int.toNat (D.I (List.getD (List.getD n.L g.I.toNat []) (0 + 1) default)) < m.L.length)) (T.need (decide ((0 : Int) ≤ D.I (List.getD (List.getD n.L g.I.toNat []) 0 default) ∧ D.I (List.getD (List.getD n.L g.I.toNat []) 0 default) < (d.L.length : Int))) (T.need (decide ((0 : Int) ≤ D.I (List.getD (List.getD n.L g.I.toNat []) (0 + 1) default) ∧ D.I (List.getD (List.getD n.L g.I.toNat []) (0 + 1) default) < (c.I.toNat : Int))) (T.need (decide (Int.toNat (D.I (List.getD (List.getD n.L g.I.toNat []) (0 + 1) default)) < m.L.length)) (T.leaf (Rd.again [D.i a.I, D.i (b.I.toNat : Int), D.i (c.I.toNat : Int), D.l d.L, D.i (e.I.toNat : Int), D.i f.I, D.i (IntKind.wrap IntKind.i64 (g.I + (1 : Int))), D.i h.I, D.i i.I, D.i (j.I.toNat : Int), D.l k.L, D.i (l.I.toNat : Int), D.l (List.set m.L (Int.toNat (D.I (List.getD (List.getD n.L g.I.toNat []) (0 + 1) default))) (updC (List.getD m.L (Int.toNat (D.I (List.getD (List.getD n.L g.I.toNat []) (0 + 1) default))) []) [D.i (maxI (D.I (List.getD (List.getD m.L (Int.toNat (D.I (List.getD (List.getD n.L g.I.toNat []) (0 + 1) default))) []) 0 default)) (IntKind.wrap IntKind.i64 (D.I (List.getD (List.getD d.L (Int.toNat (D.I (List.getD (List.getD n.L g.I.toNat []) 0 default))) []) 0 default) + D.I (List.getD (List.getD n.L g.I.toNat []) (0 + 1 + 1) default))))] 0 0 (List.length [K.int IntKind.i64]))), D.l n.L, D.l o.L]))))))) (T.leaf (Rd.again [D.i a.I, D.i (b.I.toNat : Int), D.i (c.I.toNat : Int), D.l d.L, D.i (e.I.toNat : Int), D.i f.I, D.i (IntKind.wrap IntKind.i64 (g.I + (1 : Int))), D.i h.I, D.i i.I, D.i (j.I.toNat : Int), D.l k.L, D.i (l.I.toNat : Int), D.l m.L, D.l n.L, D.l o.L])))))) (T.leaf (Rd.out (Ex.exit 6) [D.i a.I, D.i (b.I.toNat : Int), D.i (c.I.toNat : Int), D.i h.I, D.i i.I, D.i (j.I.toNat : Int), D.l k.L, D.i (l.I.toNat : Int), D.l m.L, D.l n.L, D.l o.L]))) := by kernel_rfl
theorem t17_29_0 (a b c d e f g : D) : (roundT C tab17 17 (loopOf C.P 17 29) l17_29 [.i 0, a, b, c, d, e, f, g]).run =
  T.run (T.ite (decide (e.I ≥ (0 : Int))) (T.need (decide ((0 : Int) ≤ IntKind.wrap IntKind.i64 (e.I + (1 : Int)) ∧ IntKind.wrap IntKind.i64 (e.I + (1 : Int)) < (d.I.toNat : Int))) (T.need (decide (Int.toNat (IntKind.wrap IntKind.i64 (e.I + (1 : Int))) < g.L.length)) (T.need (decide ((0 : Int) ≤ a.I ∧ a.I < (↑(List.length (D.L (List.getD (List.getD g.L (Int.toNat (IntKind.wrap IntKind.i64 (e.I + (1 : Int)))) []) 0 default))) : Int))) (T.need (decide (c.I.toNat ≤ f.L.length)) (T.need (decide (d.I.toNat ≤ g.L.length)) (T.need (yes (((0 : Int) ≤ e.I ∧ e.I < (↑(List.length (List.take d.I.toNat g.L)) : Int)) ∧ goodL (↑(List.length (rowD (List.take d.I.toNat g.L) e.I.toNat)) : Int) (List.take c.I.toNat f.L) ∧ upR (rowD (List.take d.I.toNat g.L) e.I.toNat))) (T.need (decide ((0 : Int) ≤ firstFrom (endB (List.take c.I.toNat f.L) (rowD (List.take d.I.toNat g.L) e.I.toNat) a.I (D.I (List.getD (List.getD (D.L (List.getD (List.getD g.L (Int.toNat (IntKind.wrap IntKind.i64 (e.I + (1 : Int)))) []) 0 default)) a.I.toNat []) 0 default))) 0 (List.length (List.take c.I.toNat f.L)) ∧ firstFrom (endB (List.take c.I.toNat f.L) (rowD (List.take d.I.toNat g.L) e.I.toNat) a.I (D.I (List.getD (List.getD (D.L (List.getD (List.getD g.L (Int.toNat (IntKind.wrap IntKind.i64 (e.I + (1 : Int)))) []) 0 default)) a.I.toNat []) 0 default))) 0 (List.length (List.take c.I.toNat f.L)) < (c.I.toNat : Int))) (T.need (decide (Int.toNat (firstFrom (endB (List.take c.I.toNat f.L) (rowD (List.take d.I.toNat g.L) e.I.toNat) a.I (D.I (List.getD (List.getD (D.L (List.getD (List.getD g.L (Int.toNat (IntKind.wrap IntKind.i64 (e.I + (1 : Int)))) []) 0 default)) a.I.toNat []) 0 default))) 0 (List.length (List.take c.I.toNat f.L))) < f.L.length)) (T.leaf (Rd.again [D.i 1, D.i 1, D.i (D.I (List.getD (List.getD f.L (Int.toNat (firstFrom (endB (List.take c.I.toNat f.L) (rowD (List.take d.I.toNat g.L) e.I.toNat) a.I (D.I (List.getD (List.getD (D.L (List.getD (List.getD g.L (Int.toNat (IntKind.wrap IntKind.i64 (e.I + (1 : Int)))) []) 0 default)) a.I.toNat []) 0 default))) 0 (List.length (List.take c.I.toNat f.L)))) []) 0 default)), D.i b.I, D.i (c.I.toNat : Int), D.i (d.I.toNat : Int), D.l [[D.i (firstFrom (endB (List.take c.I.toNat f.L) (rowD (List.take d.I.toNat g.L) e.I.toNat) a.I (D.I (List.getD (List.getD (D.L (List.getD (List.getD g.L (Int.toNat (IntKind.wrap IntKind.i64 (e.I + (1 : Int)))) []) 0 default)) a.I.toNat []) 0 default))) 0 (List.length (List.take c.I.toNat f.L)))]], D.i (IntKind.wrap IntKind.i64 (e.I - (1 : Int))), D.l f.L, D.l g.L])))))))))) (T.leaf (Rd.out (Ex.exit 8) [D.i 0]))) := by kernel_rfl
theorem t17_29_1 (a b c d e f g h i : D) : (roundT C tab17 17 (loopOf C.P 17 29) l17_29 [.i 1, a, b, c, d, e, f, g, h, i]).run =
  T.run (T.ite (decide (g.I ≥ (0 : Int))) (T.need (decide ((0 : Int) ≤ IntKind.wrap IntKind.i64 (g.I + (1 : Int)) ∧ IntKind.wrap IntKind.i64 (g.I + (1 : Int)) < (e.I.toNat : Int))) (T.need (decide (Int.toNat (IntKind.wrap IntKind.i64 (g.I + (1 : Int))) < i.L.length)) (T.need (decide ((0 : Int) ≤ b.I ∧ b.I < (↑(List.length (D.L (List.getD (List.getD i.L (Int.toNat (IntKind.wrap IntKind.i64 (g.I + (1 : Int)))) []) 0 default))) : Int))) (T.need (decide (d.I.toNat ≤ h.L.length)) (T.need (decide (e.I.toNat ≤ i.L.length)) (T.need (yes (((0 : Int) ≤ g.I ∧ g.I < (↑(List.length (List.take e.I.toNat i.L)) : Int)) ∧ goodL (↑(List.length (rowD (List.take e.I.toNat i.L) g.I.toNat)) : Int) (List.take d.I.toNat h.L) ∧ upR (rowD (List.take e.I.toNat i.L) g.I.toNat))) (T.need (decide (a.I.toNat ≤ f.L.length ∧ a.I.toNat + 1 ≤ 2 ^ 62 ∧ (a.I.toNat + 1) * Try.prog.types[3].bytes ≤ 2 ^ 47)) (T.need (decide ((0 : Int) ≤ firstFrom (endB (List.take d.I.toNat h.L) (rowD (List.take e.I.toNat i.L) g.I.toNat) b.I (D.I (List.getD (List.getD (D.L (List.getD (List.getD i.L (Int.toNat (IntKind.wrap IntKind.i64 (g.I + (1 : Int)))) []) 0 default)) b.I.toNat []) 0 default))) 0 (List.length (List.take d.I.toNat h.L)) ∧ firstFrom (endB (List.take d.I.toNat h.L) (rowD (List.take e.I.toNat i.L) g.I.toNat) b.I (D.I (List.getD (List.getD (D.L (List.getD (List.getD i.L (Int.toNat (IntKind.wrap IntKind.i64 (g.I + (1 : Int)))) []) 0 default)) b.I.toNat []) 0 default))) 0 (List.length (List.take d.I.toNat h.L)) < (d.I.toNat : Int))) (T.need (decide (Int.toNat (firstFrom (endB (List.take d.I.toNat h.L) (rowD (List.take e.I.toNat i.L) g.I.toNat) b.I (D.I (List.getD (List.getD (D.L (List.getD (List.getD i.L (Int.toNat (IntKind.wrap IntKind.i64 (g.I + (1 : Int)))) []) 0 default)) b.I.toNat []) 0 default))) 0 (List.length (List.take d.I.toNat h.L))) < h.L.length)) (T.leaf (Rd.again [D.i 1, D.i (↑(a.I.toNat + 1) : Int), D.i (D.I (List.getD (List.getD h.L (Int.toNat (firstFrom (endB (List.take d.I.toNat h.L) (rowD (List.take e.I.toNat i.L) g.I.toNat) b.I (D.I (List.getD (List.getD (D.L (List.getD (List.getD i.L (Int.toNat (IntKind.wrap IntKind.i64 (g.I + (1 : Int)))) []) 0 default)) b.I.toNat []) 0 default))) 0 (List.length (List.take d.I.toNat h.L)))) []) 0 default)), D.i c.I, D.i (d.I.toNat : Int), D.i (e.I.toNat : Int), D.l (List.take a.I.toNat f.L ++ List.take (List.length [[D.i (firstFrom (endB (List.take d.I.toNat h.L) (rowD (List.take e.I.toNat i.L) g.I.toNat) b.I (D.I (List.getD (List.getD (D.L (List.getD (List.getD i.L (Int.toNat (IntKind.wrap IntKind.i64 (g.I + (1 : Int)))) []) 0 default)) b.I.toNat []) 0 default))) 0 (List.length (List.take d.I.toNat h.L)))]]) [[D.i (firstFrom (endB (List.take d.I.toNat h.L) (rowD (List.take e.I.toNat i.L) g.I.toNat) b.I (D.I (List.getD (List.getD (D.L (List.getD (List.getD i.L (Int.toNat (IntKind.wrap IntKind.i64 (g.I + (1 : Int)))) []) 0 default)) b.I.toNat []) 0 default))) 0 (List.length (List.take d.I.toNat h.L)))]]), D.i (IntKind.wrap IntKind.i64 (g.I - (1 : Int))), D.l h.L, D.l i.L]))))))))))) (T.leaf (Rd.out (Ex.exit 8) [D.i 1, D.i (a.I.toNat : Int), D.l f.L]))) := by kernel_rfl
noncomputable def sp22 : SpL := [(55, mkF s55 G55)]
noncomputable def lp22 : LpL := [(4, mkL l22_4 G22_4), (7, mkL l22_7 G22_7), (15, mkL l22_15 G22_15), (18, mkL l22_18 G22_18)]
noncomputable def sw22 : SwL := []
noncomputable def tab22 : Tab := mkTab sp22 lp22 sw22
end Go.Proofs.Ytipbcpobnciccaa
