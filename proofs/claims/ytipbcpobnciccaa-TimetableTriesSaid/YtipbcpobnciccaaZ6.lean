/-
  What the claim timetable_tries rests on, part 6.
-/
import Derived.Test.YtipbcpobnciccaaZ5
import Derived.Test.YtipbcpobnciccaaProg
namespace Go.Proofs.Ytipbcpobnciccaa
open Go.Lite
def annL : List (Nat × Nat × List Nat) :=
  [(4, 6, [0, 3, 4, 5]),
   (4, 13, [0, 3, 4, 5, 6, 7]),
   (5, 12, [2, 6, 8, 10]),
   (7, 8, [0, 1, 2, 3, 9, 10, 11]),
   (8, 5, [0, 1, 2, 3, 9, 10]),
   (8, 20, [0, 2, 11, 16, 18]),
   (9, 12, [0, 7, 8, 11, 13, 14]),
   (11, 9, [2, 3, 5, 7]),
   (11, 18, [2, 3, 5, 7, 8, 10, 11]),
   (11, 27, [2, 3, 5, 15]),
   (12, 14, [0, 2, 7, 9, 11, 13, 15]),
   (14, 9, [2, 3, 4, 5, 9, 10, 11, 12, 13, 14]),
   (17, 9, [0, 5, 8, 9, 11, 12]),
   (17, 12, [0, 5, 8, 9, 11]),
   (17, 15, [0, 5, 8, 9, 11, 13, 73, 74]),
   (17, 21, [0, 5, 8, 9, 11, 13, 15, 90, 91, 92]),
   (17, 29, [5, 8, 11, 18, 19]),
   (18, 4, [0, 1, 5]),
   (20, 4, [2, 3, 11, 12, 13]),
   (21, 4, [0, 1, 5]),
   (22, 4, [0, 2, 3, 9, 10]),
   (22, 7, [0, 2, 3, 9, 10, 11, 12]),
   (22, 15, [2, 3, 9, 10, 14, 15]),
   (22, 18, [2, 3, 9, 10, 14, 15, 16]),
   (23, 7, [1, 2, 3, 5, 16]),
   (25, 4, [1, 3]),
   (26, 4, [1, 3]),
   (26, 12, [1, 3, 4, 5]),
   (27, 5, [2, 3, 5, 6]),
   (27, 15, [2, 3, 5, 8]),
   (30, 6, [2, 7, 8, 25, 26, 27]),
   (32, 4, [0, 1, 2, 7]),
   (32, 9, [1, 2, 8]),
   (35, 2, [0, 1, 5]),
   (39, 3, [8, 9, 10, 21, 22]),
   (40, 4, [0, 2, 8, 9, 10]),
   (40, 8, [0, 8, 9, 11]),
   (40, 12, [0, 8, 9, 11, 12, 13]),
   (41, 5, [1, 3, 24, 25, 26]),
   (42, 4, [1, 2, 4, 5, 6]),
   (42, 9, [1, 2, 4, 5, 7]),
   (42, 15, [1, 2, 4, 5, 7, 10]),
   (44, 5, [2, 3, 5, 58, 59, 60]),
   (49, 3, [5, 12, 13]),
   (50, 7, [1, 6, 7, 29, 30]),
   (50, 12, [1, 6, 7, 8, 9]),
   (51, 2, [0, 1, 7, 8]),
   (53, 1, [0, 2, 3]),
   (55, 3, [0, 5, 6]),
   (57, 4, [2, 3, 6, 7, 8, 24, 25, 26]),
   (57, 9, [2, 6, 7, 8, 45, 46]),
   (58, 3, [2, 3, 6, 7, 15, 16, 17]),
   (59, 2, [0, 1, 5]),
   (68, 3, [0, 1, 6, 18, 19]),
   (68, 9, [0, 1, 6, 8, 30, 31]),
   (68, 12, [0, 1, 6, 8, 30, 31, 36, 37, 38]),
   (69, 3, [0, 2, 7, 8]),
   (69, 7, [0, 2, 7, 8, 9, 10]),
   (72, 5, [1, 3, 6, 8, 9, 10]),
   (72, 8, [1, 3, 6, 8, 9, 10, 11]),
   (72, 32, [3, 6, 8, 9, 16]),
   (77, 2, [0, 1, 3, 12, 13, 14]),
   (77, 7, [0, 1, 3]),
   (77, 9, [0, 1, 3, 6]),
   (79, 3, [1, 5, 15, 16, 17]),
   (80, 2, [0, 1, 7, 8]),
   (81, 5, [0, 3, 4]),
   (82, 3, [0, 1, 5, 17, 18]),
   (82, 8, [0, 5]),
   (82, 10, [0, 5, 7, 31, 32, 33]),
   (88, 2, [0, 1, 7, 8])]
def annXL : List (Nat × Nat × Option Nat × List Nat) :=
  [(4, 6, some 0, [3, 4]),
   (4, 6, none, [2]),
   (4, 13, some 2, [0, 3, 4, 5, 6]),
   (4, 13, none, [2]),
   (5, 12, some 0, []),
   (5, 12, none, [4]),
   (7, 8, some 0, [0, 1, 2, 3, 9, 10]),
   (7, 8, none, [8]),
   (8, 5, some 0, [0, 1, 2, 3, 9]),
   (8, 5, none, [8]),
   (8, 20, some 2, []),
   (8, 20, none, [8]),
   (9, 12, some 0, [0, 7, 8, 11, 13]),
   (9, 12, none, [6]),
   (11, 9, some 0, [2, 3, 5]),
   (11, 9, none, [4]),
   (11, 18, some 2, [2, 3, 5, 7]),
   (11, 18, none, [4]),
   (11, 27, some 4, []),
   (11, 27, none, [4]),
   (12, 14, some 0, []),
   (12, 14, none, [6]),
   (14, 9, some 0, [2, 3, 4, 5, 9, 10, 11, 12, 13]),
   (14, 9, none, [8]),
   (17, 9, some 0, [0, 5, 8, 9, 11]),
   (17, 9, none, [6, 7]),
   (17, 12, some 2, [5, 8, 11]),
   (17, 12, none, [6, 7]),
   (17, 15, some 4, [0, 5, 8, 9, 11, 13]),
   (17, 15, none, [6, 7]),
   (17, 21, some 6, [0, 5, 8, 9, 11, 13]),
   (17, 21, none, [6, 7]),
   (17, 29, some 8, [18]),
   (17, 29, none, [6, 7]),
   (18, 4, some 0, []),
   (18, 4, none, [4]),
   (20, 4, some 0, [3, 12]),
   (20, 4, none, [8, 9, 10]),
   (21, 4, some 0, []),
   (21, 4, none, [4]),
   (22, 4, some 0, [2, 3, 9, 10]),
   (22, 4, none, [8]),
   (22, 7, some 2, [0, 2, 3, 9, 10, 11]),
   (22, 7, none, [8]),
   (22, 15, some 4, [14]),
   (22, 15, none, [8]),
   (22, 18, some 6, [2, 3, 9, 10, 14, 15]),
   (22, 18, none, [8]),
   (25, 4, some 0, []),
   (25, 4, none, [2]),
   (26, 4, some 0, []),
   (26, 4, none, [2]),
   (26, 12, some 2, [1, 3]),
   (26, 12, none, [2]),
   (27, 5, some 0, [2, 3, 5]),
   (27, 5, none, [4]),
   (27, 15, some 2, []),
   (27, 15, none, [4]),
   (30, 6, some 0, [2, 7, 8]),
   (30, 6, none, [6]),
   (32, 4, some 0, [1, 2]),
   (32, 4, none, [6]),
   (32, 9, some 2, []),
   (32, 9, none, [6]),
   (35, 2, some 0, [0, 1]),
   (35, 2, none, [4]),
   (39, 3, some 0, [9, 10]),
   (39, 3, none, [6, 7]),
   (40, 4, some 0, [0, 8, 9]),
   (40, 4, none, [6, 7]),
   (40, 8, some 2, []),
   (40, 8, none, [6, 7]),
   (40, 12, some 4, [0, 8, 9, 11, 12]),
   (40, 12, none, [6, 7]),
   (41, 5, some 0, []),
   (41, 5, none, [2]),
   (42, 4, some 0, [1, 2, 4, 5]),
   (42, 4, none, [2, 3]),
   (42, 9, some 2, [2]),
   (42, 9, none, [2, 3]),
   (42, 15, some 4, [1, 2, 4, 5, 7, 10]),
   (42, 15, none, [2, 3]),
   (44, 5, some 0, []),
   (44, 5, none, [4]),
   (49, 3, some 0, [5]),
   (49, 3, none, [4]),
   (50, 7, some 0, [1, 6, 7]),
   (50, 7, none, [2, 3]),
   (50, 12, some 2, [8]),
   (50, 12, none, [2, 3]),
   (51, 2, some 0, []),
   (51, 2, none, [4]),
   (53, 1, some 0, []),
   (53, 1, none, []),
   (55, 3, some 0, [5]),
   (55, 3, none, [4]),
   (57, 4, some 0, [2, 6, 7, 8]),
   (57, 4, none, [6, 7]), (57, 4, some 1000000, [6, 7]),
   (57, 9, some 2, [2, 6, 7, 8]),
   (57, 9, none, [6, 7]), (57, 9, some 1000000, [6, 7]),
   (58, 3, some 0, [6, 7]),
   (58, 3, none, [6]),
   (59, 2, some 0, [0, 1]),
   (59, 2, none, [4]),
   (68, 3, some 0, [0, 1, 6]),
   (68, 3, none, [4, 5]),
   (68, 9, some 2, [6, 8]),
   (68, 9, none, [4, 5]),
   (68, 12, some 4, [0, 1, 6, 8, 30, 31]),
   (68, 12, none, [4, 5]),
   (69, 3, some 0, []),
   (69, 3, none, [6]),
   (69, 7, some 2, [0, 2, 7, 8, 9]),
   (69, 7, none, [6]),
   (72, 5, some 0, [3, 6, 8, 9]),
   (72, 5, none, [6, 7]),
   (72, 8, some 2, [1, 3, 6, 8, 9, 10]),
   (72, 8, none, [6, 7]),
   (72, 32, some 4, [3, 6, 9]),
   (72, 32, none, [6, 7]),
   (77, 2, some 0, [0, 1, 3]),
   (77, 2, none, []),
   (77, 7, none, []),
   (77, 9, some 4, [0, 1, 3, 6]),
   (77, 9, none, []),
   (79, 3, some 0, [5]),
   (79, 3, none, [4]),
   (80, 2, some 0, []),
   (80, 2, none, [4]),
   (81, 5, some 0, [3]),
   (81, 5, none, [2]),
   (82, 3, some 0, [0, 5]),
   (82, 3, none, [4]),
   (82, 8, some 2, [5]),
   (82, 8, none, [4]),
   (82, 10, some 4, [0, 5, 7]),
   (82, 10, none, [4]),
   (88, 2, some 0, []),
   (88, 2, none, [4])]
def annOf (f : FuncId) (k : Nat) : Option (List Nat) := (annL.find? fun x => x.1 == f && x.2.1 == k).map (·.2.2)
def annXOf (f : FuncId) (k : Nat) (e : Option Nat) : Option (List Nat) := (annXL.find? fun x => x.1 == f && x.2.1 == k && x.2.2.1 == e).map (·.2.2.2)
def wrL : List (Nat × List Bool) := [(53, [true]), (56, [true]), (58, [false, false, true]), (68, [false, true]), (69, [false, false, true]), (79, [true, true]), (105, [true])]
def wrOf (f : FuncId) : List Bool := ((wrL.find? fun x => x.1 == f).map (·.2)).getD []
def fzoOf (o : Oper) : List Nat := match o.op with
  | .buildSlice t _ ps => if t = 36 then ps.toList.filterMap fun p => match p.2 with
    | .tmp t => some t
    | _ => none
    else []
  | _ => []
noncomputable def C : Cfg := { P := Try.prog, ty := tyOf Try.prog, wr := wrOf, ann := annOf, annX := annXOf, fuel := 2 ^ 64, frz := fun f => f == 46, give := fun f k => f == 23 && k == 7, ext := fun _ => none, alts := fun t => if t = 110 then [118, 120, 123] else [], fzo := fzoOf }
theorem own : ownKnob Try.prog.godebug = none := by kernel_rfl
theorem mixed : C.P.follows .mixedOrders = true := by kernel_rfl
def fnOk (fn : Func) : Bool := match fn.body with
  | none => true
  | some c => fn.name != "runtime.NumGoroutine" && regsOk c
theorem fnsOk : Try.prog.funcs.toList.all fnOk = true := by kernel_rfl
theorem fn_ok {f : FuncId} {fn : Func} {c : Code} (h : Try.prog.funcs[f]? = some fn) (hb : fn.body = some c) : fn.name ≠ "runtime.NumGoroutine" ∧ regsOk c = true := by
  have hm : fn ∈ Try.prog.funcs := Array.mem_of_getElem? h
  have := List.all_eq_true.1 fnsOk fn (by simpa using hm)
  unfold fnOk at this
  rw [hb] at this
  simpa using this
theorem callsOk (n : Nat) : CallOK C.P (callA C n) := by
  refine calls_ok (C := C) ?_ ?_ mixed ?_ ?_ n
  · intro t T h
    dsimp only [C] at h ⊢
    exact h
  · intro f E h
    delta C at h
    cases h
  · intro f fn h hb
    obtain ⟨c, hc⟩ := Option.isSome_iff_exists.1 hb
    exact (fn_ok h hc).1
  · exact fun f fn c h hb => (fn_ok h hb).2
end Go.Proofs.Ytipbcpobnciccaa
namespace Go.Proofs.Ytipbcpobnciccaa
open Go.Lite
set_option maxRecDepth 100000
theorem hC : ∀ t Y, C.ty t = some Y → tyOf C.P t = some Y := by
  intro t Y h
  dsimp only [C] at h ⊢
  exact h
theorem fuelC : C.fuel = 18446744073709551616 := by kernel_rfl
theorem big_eq : big = 4611686018427387904 := rfl
theorem within_dec {x a b : Int} : Lite.within x a b = decide (a ≤ x ∧ x ≤ b) := by simp [Lite.within]
section
variable {α : Type} {p : Nat → Bool} {i len : Nat} {rt rf r : α}
theorem all_step (h : (T.ite (allFrom p i (len - i)) (.leaf rt) (.leaf rf)).run = some r) (hlt : i < len) : (p i = false → some rf = some r) ∧ (p i = true → (T.ite (allFrom p (i + 1) (len - (i + 1))) (.leaf rt) (.leaf rf)).run = some r) := by
  rw [show len - i = (len - (i + 1)) + 1 by omega] at h
  simp only [allFrom] at h
  refine ⟨fun hp => ?_, fun hp => ?_⟩
  · rw [hp, Bool.false_and] at h; exact h
  · rw [hp, Bool.true_and] at h; exact h
end
section
variable {p : Nat → Bool} {i len : Nat} {ro r : Ex × List D}
theorem first_step (h : (T.ite (decide (firstFrom p i (len - i) ≥ 0)) (.leaf (.ret, [.i (firstFrom p i (len - i))])) (.leaf ro)).run = some r) (hlt : i < len) :
    (p i = true → some (Ex.ret, [D.i (i : Int)]) = some r) ∧ (p i = false → (T.ite (decide (firstFrom p (i + 1) (len - (i + 1)) ≥ 0)) (.leaf (.ret, [.i (firstFrom p (i + 1) (len - (i + 1)))])) (.leaf ro)).run = some r) := by
  rw [show len - i = (len - (i + 1)) + 1 by omega] at h
  simp only [firstFrom] at h
  refine ⟨fun hp => ?_, fun hp => ?_⟩
  · simp only [hp, if_true, run_ite, run_leaf] at h
    rw [if_pos (by simp)] at h
    exact h
  · simp only [hp, Bool.false_eq_true, if_false] at h
    exact h
theorem first_end (h : (T.ite (decide (firstFrom p i (len - i) ≥ 0)) (.leaf (.ret, [.i (firstFrom p i (len - i))])) (.leaf ro)).run = some r) (hge : ¬ i < len) : some ro = some r := by
  rw [show len - i = 0 by omega] at h
  simp only [firstFrom, run_ite, run_leaf] at h
  rw [if_neg (by simp)] at h
  exact h
end
theorem roundTK_head {C : Cfg} {tab : Tab} {f : FuncId} {b : Code} {k : Nat} {s : LSig} {j : D} {n : Int} {r : List D} (h : j.I = n) (hs : 2 ≤ s.head.length) : roundTK C tab f b k s (j :: r) = roundTK C tab f b k s (.i n :: r) := by
  obtain ⟨live, head, exits⟩ := s
  match head, hs with
  | a :: b :: c, _ => simp only [roundTK, roundTG, headL, headA, List.headD_cons, List.tail_cons, I_i, h]
theorem bytes3 : (Try.prog.types[3].bytes : Int) = 8 := by kernel_rfl
theorem bytes58 : Try.prog.types[58].bytes = 24 := by kernel_rfl
end Go.Proofs.Ytipbcpobnciccaa
namespace Go.Proofs.Ytipbcpobnciccaa
open Go.Lite
def s48 : Sig := ⟨[.k (.int .i64), .k (.int .i64), .k (.int .i64)], [(.k .bool, [])]⟩
end Go.Proofs.Ytipbcpobnciccaa
namespace Go.Proofs.Ytipbcpobnciccaa
open Go.Lite
noncomputable section
def lkF (l : List (List D)) (i : Nat) : Int := ix (l.getD i []) 0
def lkT (l : List (List D)) (i : Nat) : Int := ix (l.getD i []) 1
def lkW (l : List (List D)) (i : Nat) : Int := ix (l.getD i []) 2
def linkP (n f t w : Int) : Bool := Lite.within f 0 (n - 1) && Lite.within t 0 (n - 1) && Lite.within w (-1000000) 1000000
def linkOk (n : Int) (l : List (List D)) (i : Nat) : Bool := linkP n (lkF l i) (lkT l i) (lkW l i)
def netOk (n : Int) (l : List (List D)) : Bool := Lite.within n 1 500 && decide (l.length ≤ 5000) && allFrom (linkOk n l) 0 l.length
def G48 (ds : List D) : T (List D) := match ds with
  | [n, a, b] => .leaf [.b (Lite.within n.I a.I b.I)]
  | _ => .fail
end
end Go.Proofs.Ytipbcpobnciccaa
namespace Go.Proofs.Ytipbcpobnciccaa
open Go.Lite
noncomputable def sp48 : SpL := []
noncomputable def lp48 : LpL := []
noncomputable def sw48 : SwL := []
noncomputable def tab48 : Tab := mkTab sp48 lp48 sw48
end Go.Proofs.Ytipbcpobnciccaa
namespace Go.Proofs.Ytipbcpobnciccaa
open Go.Lite
set_option linter.unusedVariables false
set_option maxRecDepth 100000
theorem t48 (a b c : D) : fnT C tab48 48 s48 [a, b, c] =
  T.ite (decide (a.I ≥ b.I)) (T.leaf [D.b (decide (a.I ≤ c.I))]) (T.leaf [D.b false]) := by kernel_rfl
end Go.Proofs.Ytipbcpobnciccaa
namespace Go.Proofs.Ytipbcpobnciccaa
open Go.Lite
theorem ok48 (n : Nat) : FnOK C (n + 1) 48 (mkF s48 G48) := by
  refine fn_ofS hC (sp := sp48) (lp := lp48) (sw := sw48) trivial trivial (by kernel_rfl) [] (by kernel_rfl) rfl (fun k hk => by cases hk) fun ds rr h => ?_
  unfold G48 at h
  split at h
  · rename_i a b c
    refine (congrArg T.run (t48 a b c)).trans ?_
    rw [← h]
    simp only [run_ite, run_leaf, Lite.within]
    split <;> rename_i hc
    · have : b.I ≤ a.I := of_decide_eq_true hc
      simp [this]
    · have : ¬ b.I ≤ a.I := fun h => hc (decide_eq_true h)
      simp [this]
  · cases h
end Go.Proofs.Ytipbcpobnciccaa
namespace Go.Proofs.Ytipbcpobnciccaa
open Go.Lite
def s68 : SigW := ⟨[.eptr [.k (.int .i64), .k (.ro [.int .i64, .int .i64, .int .i64])], .sl 0 1], [.row [.int .i64]], [(.tup [.sl 1 1, .k (.int .i64)], [.row [.int .i64], .row [.int .i64]])]⟩
def l68_3 : LSig := mkLS [0, 1, 6, 18, 19] [(76, [(0, .eptr [.k (.int .i64), .k (.ro [.int .i64, .int .i64, .int .i64])]), (1, .sl 0 1), (6, .sl 1 1), (18, .k (.int .i64)), (19, .k (.int .i64))], [.row [.int .i64], .row [.int .i64]])] [(.exit 0, [0, 1, 6], [(76, [(0, .eptr [.k (.int .i64), .k (.ro [.int .i64, .int .i64, .int .i64])]), (1, .sl 0 1), (6, .sl 1 1)], [.row [.int .i64], .row [.int .i64]])])]
def l68_9 : LSig := mkLS [0, 1, 6, 8, 30, 31] [(76, [(0, .eptr [.k (.int .i64), .k (.ro [.int .i64, .int .i64, .int .i64])]), (1, .sl 0 1), (6, .sl 1 1), (8, .k (.int .i64)), (30, .k (.int .i64)), (31, .k (.int .i64))], [.row [.int .i64], .row [.int .i64]])] [(.exit 2, [6, 8], [(76, [(6, .sl 1 1), (8, .k (.int .i64))], [.row [.int .i64], .row [.int .i64]])])]
def l68_12 : LSig := mkLS [0, 1, 6, 8, 30, 31, 36, 37, 38] [(76, [(0, .eptr [.k (.int .i64), .k (.ro [.int .i64, .int .i64, .int .i64])]), (1, .sl 0 1), (6, .sl 1 1), (8, .k (.int .i64)), (30, .k (.int .i64)), (31, .k (.int .i64)), (36, .k (.ro [.int .i64, .int .i64, .int .i64])), (37, .k (.int .i64)), (38, .k (.int .i64))], [.row [.int .i64], .row [.int .i64]])] [(.exit 4, [0, 1, 6, 8, 30, 31], [(76, [(0, .eptr [.k (.int .i64), .k (.ro [.int .i64, .int .i64, .int .i64])]), (1, .sl 0 1), (6, .sl 1 1), (8, .k (.int .i64)), (30, .k (.int .i64)), (31, .k (.int .i64))], [.row [.int .i64], .row [.int .i64]])])]
end Go.Proofs.Ytipbcpobnciccaa
namespace Go.Proofs.Ytipbcpobnciccaa
open Go.Lite
noncomputable section
def rg (R : List (List D)) (j : Nat) : Int := ix (R.getD j []) 0
def rs (R : List (List D)) (j : Nat) (v : Int) : List (List D) := R.set j [.i v]
def bndR (R : List (List D)) (M : Int) : Prop := ∀ j, -M ≤ rg R j ∧ rg R j ≤ M
def extraF : Nat → Nat → List (List D)
  | _, 0 => []
  | i, k + 1 => [.i 0, .i (i : Int), .i 0] :: extraF (i + 1) k
def allL (n : Int) (l : List (List D)) : List (List D) := l ++ extraF 0 n.toNat
def netP (n : Int) (l : List (List D)) : Prop := netOk n l = true
def goodL (n : Int) (l : List (List D)) : Prop := 1 ≤ n ∧ n ≤ 500 ∧ l.length ≤ 5500 ∧ ∀ i, i < l.length → (0 ≤ lkF l i ∧ lkF l i < n) ∧ (0 ≤ lkT l i ∧ lkT l i < n) ∧ (-1000000 ≤ lkW l i ∧ lkW l i ≤ 1000000)
abbrev RSt := List (List D) × List (List D) × Int
def stepR (l : List (List D)) (i : Nat) (s : RSt) : RSt :=
  if rg s.1 (lkF l i).toNat + lkW l i > rg s.1 (lkT l i).toNat then (rs s.1 (lkT l i).toNat (rg s.1 (lkF l i).toNat + lkW l i), rs s.2.1 (lkT l i).toNat i, lkT l i) else s
def passR (l : List (List D)) : Nat → Nat → RSt → RSt
  | _, 0, s => s
  | i, k + 1, s => passR l (i + 1) k (stepR l i s)
def roundsR (l : List (List D)) : Nat → RSt → RSt
  | 0, s => s
  | k + 1, s => if (passR l 0 l.length (s.1, s.2.1, -1)).2.2 < 0 then passR l 0 l.length (s.1, s.2.1, -1) else roundsR l k (passR l 0 l.length (s.1, s.2.1, -1))
def pushR (n : Int) (l t : List (List D)) : RSt := roundsR l (n.toNat + 1) (t, List.replicate n.toNat [.i (-1)], -1)
def G68 (ds : List D) : T (List D) := match ds with
  | [n, l, m, t] => .need (yes (goodL n.I l.L ∧ m.I = n.I ∧ (t.L.length : Int) = n.I ∧ bndR t.L 1099511627776))
      (.leaf [.i n.I, .i (pushR n.I l.L t.L).2.2, .l (pushR n.I l.L t.L).1, .l (pushR n.I l.L t.L).2.1])
  | _ => .fail
def G68_3 (ds : List D) : T (Ex × List D) := match ds with
  | [n, l, m, q, k, i, t, b] => .need (yes (1 ≤ n.I ∧ n.I ≤ 500 ∧ m.I = n.I ∧ q.I = n.I ∧ k.I = n.I ∧ 0 ≤ i.I ∧ i.I ≤ n.I ∧ b.L = List.replicate i.I.toNat [.i (-1)] ++ List.replicate (n.I - i.I).toNat [.i 0]))
      (.leaf (.exit 0, [.i n.I, .l l.L, .i n.I, .i n.I, .l t.L, .l (List.replicate n.I.toNat [.i (-1)])]))
  | _ => .fail
def room (t : List (List D)) (k : Int) : Prop := ∃ M : Int, bndR t M ∧ M + 1000000 * k ≤ 4611686018427387904
def G68_9 (ds : List D) : T (Ex × List D) := match ds with
  | [n, l, m, q, r, k, i, t, b] => .need (yes (goodL n.I l.L ∧ m.I = n.I ∧ q.I = n.I ∧ k.I = n.I + 1 ∧ 0 ≤ i.I ∧ i.I ≤ n.I + 1 ∧ (t.L.length : Int) = n.I ∧ (b.L.length : Int) = n.I ∧ room t.L (l.L.length * (n.I + 1 - i.I))))
      (.leaf (.exit 2, [.i n.I, .i (roundsR l.L (n.I + 1 - i.I).toNat (t.L, b.L, r.I)).2.2, .l (roundsR l.L (n.I + 1 - i.I).toNat (t.L, b.L, r.I)).1, .l (roundsR l.L (n.I + 1 - i.I).toNat (t.L, b.L, r.I)).2.1]))
  | _ => .fail
def G68_12 (ds : List D) : T (Ex × List D) := match ds with
  | [n, l, m, q, r, k, i, l', k', i', t, b] => .need (yes (goodL n.I l.L ∧ m.I = n.I ∧ q.I = n.I ∧ l'.L = l.L ∧ k'.I = l.L.length ∧ 0 ≤ i'.I ∧ i'.I ≤ l.L.length ∧ (t.L.length : Int) = n.I ∧ (b.L.length : Int) = n.I ∧ room t.L (l.L.length - i'.I)))
      (.leaf (.exit 4, [.i n.I, .l l.L, .i n.I, .i n.I, .i (passR l.L i'.I.toNat (l.L.length - i'.I.toNat) (t.L, b.L, r.I)).2.2, .i k.I, .i i.I, .l (passR l.L i'.I.toNat (l.L.length - i'.I.toNat) (t.L, b.L, r.I)).1, .l (passR l.L i'.I.toNat (l.L.length - i'.I.toNat) (t.L, b.L, r.I)).2.1]))
  | _ => .fail
end
end Go.Proofs.Ytipbcpobnciccaa
namespace Go.Proofs.Ytipbcpobnciccaa
open Go.Lite
noncomputable def sp68 : SpL := []
noncomputable def lp68 : LpL := [(3, mkLK 1 l68_3 G68_3), (9, mkLK 1 l68_9 G68_9), (12, mkLK 1 l68_12 G68_12)]
noncomputable def sw68 : SwL := []
noncomputable def tab68 : Tab := mkTab sp68 lp68 sw68
end Go.Proofs.Ytipbcpobnciccaa
namespace Go.Proofs.Ytipbcpobnciccaa
open Go.Lite
set_option linter.unusedVariables false
set_option maxRecDepth 100000
theorem t68 (a b c d : D) : fnTW C tab68 68 s68 [a, b, c, d] =
  T.need (decide ((0 : Int) ≤ a.I ∧ a.I = a.I ∧ a.I ≤ (2 : Int) ^ 40 ∧ (↑Try.prog.types[3].bytes : Int) * a.I ≤ (2 : Int) ^ 46)) (T.need (yes ((1 : Int) ≤ a.I ∧ a.I ≤ (500 : Int) ∧ (c.I.toNat : Int) = a.I ∧ (↑(List.length (List.replicate a.I.toNat [D.i 0])) : Int) = a.I ∧ (↑(List.length (List.replicate a.I.toNat [D.i 0])) : Int) = a.I ∧ (0 : Int) ≤ (0 : Int) ∧ (0 : Int) ≤ a.I ∧ List.replicate a.I.toNat [D.i 0] = List.replicate (Int.toNat (0 : Int)) [D.i (-1 : Int)] ++ List.replicate (Int.toNat (a.I - (0 : Int))) [D.i 0])) (T.need (yes (goodL a.I b.L ∧ (a.I.toNat : Int) = a.I ∧ (a.I.toNat : Int) = a.I ∧ IntKind.wrap IntKind.i64 (a.I + (1 : Int)) = a.I + (1 : Int) ∧ (0 : Int) ≤ (0 : Int) ∧ (0 : Int) ≤ a.I + (1 : Int) ∧ (d.L.length : Int) = a.I ∧ (↑(List.length (List.replicate a.I.toNat [D.i (-1 : Int)])) : Int) = a.I ∧ room d.L ((b.L.length : Int) * (a.I + (1 : Int) - (0 : Int))))) (T.leaf [D.i (a.I.toNat : Int), D.i (roundsR b.L (Int.toNat (a.I + (1 : Int) - (0 : Int))) (d.L, List.replicate a.I.toNat [D.i (-1 : Int)], (-1 : Int))).snd.snd, D.l (roundsR b.L (Int.toNat (a.I + (1 : Int) - (0 : Int))) (d.L, List.replicate a.I.toNat [D.i (-1 : Int)], (-1 : Int))).fst, D.l (roundsR b.L (Int.toNat (a.I + (1 : Int) - (0 : Int))) (d.L, List.replicate a.I.toNat [D.i (-1 : Int)], (-1 : Int))).snd.fst]))) := by kernel_rfl
theorem t68_3 (a b c d e f g h : D) : roundTK C tab68 68 (loopOf C.P 68 3) 1 l68_3 [a, b, c, d, e, f, g, h] =
  T.ite (decide (f.I < e.I)) (T.need (decide ((0 : Int) ≤ f.I ∧ f.I < (d.I.toNat : Int))) (T.need (decide (f.I.toNat < h.L.length)) (T.leaf (Rd.again [D.i a.I, D.l b.L, D.i (c.I.toNat : Int), D.i (d.I.toNat : Int), D.i e.I, D.i (IntKind.wrap IntKind.i64 (f.I + (1 : Int))), D.l g.L, D.l (List.set h.L f.I.toNat (updC (List.getD h.L f.I.toNat []) [D.i (-1 : Int)] 0 0 (List.length [K.int IntKind.i64])))])))) (T.leaf (Rd.out (Ex.exit 0) [D.i a.I, D.l b.L, D.i (c.I.toNat : Int), D.i (d.I.toNat : Int), D.l g.L, D.l h.L])) := by kernel_rfl
theorem t68_9 (a b c d e f g h i : D) : roundTK C tab68 68 (loopOf C.P 68 9) 1 l68_9 [a, b, c, d, e, f, g, h, i] =
  T.ite (decide (g.I < f.I)) (T.need (yes (goodL a.I b.L ∧ (c.I.toNat : Int) = a.I ∧ (d.I.toNat : Int) = a.I ∧ b.L = b.L ∧ (b.L.length : Int) = (b.L.length : Int) ∧ (0 : Int) ≤ (0 : Int) ∧ (0 : Int) ≤ (b.L.length : Int) ∧ (h.L.length : Int) = a.I ∧ (i.L.length : Int) = a.I ∧ room h.L ((b.L.length : Int) - (0 : Int)))) (T.ite (decide ((passR b.L (Int.toNat (0 : Int)) (b.L.length - Int.toNat (0 : Int)) (h.L, i.L, (-1 : Int))).snd.snd < (0 : Int))) (T.leaf (Rd.out (Ex.exit 2) [D.i (a.I.toNat : Int), D.i (passR b.L (Int.toNat (0 : Int)) (b.L.length - Int.toNat (0 : Int)) (h.L, i.L, (-1 : Int))).snd.snd, D.l (passR b.L (Int.toNat (0 : Int)) (b.L.length - Int.toNat (0 : Int)) (h.L, i.L, (-1 : Int))).fst, D.l (passR b.L (Int.toNat (0 : Int)) (b.L.length - Int.toNat (0 : Int)) (h.L, i.L, (-1 : Int))).snd.fst])) (T.leaf (Rd.again [D.i a.I, D.l b.L, D.i (a.I.toNat : Int), D.i (a.I.toNat : Int), D.i (passR b.L (Int.toNat (0 : Int)) (b.L.length - Int.toNat (0 : Int)) (h.L, i.L, (-1 : Int))).snd.snd, D.i f.I, D.i (IntKind.wrap IntKind.i64 (g.I + (1 : Int))), D.l (passR b.L (Int.toNat (0 : Int)) (b.L.length - Int.toNat (0 : Int)) (h.L, i.L, (-1 : Int))).fst, D.l (passR b.L (Int.toNat (0 : Int)) (b.L.length - Int.toNat (0 : Int)) (h.L, i.L, (-1 : Int))).snd.fst])))) (T.leaf (Rd.out (Ex.exit 2) [D.i (d.I.toNat : Int), D.i e.I, D.l h.L, D.l i.L])) := by kernel_rfl
theorem t68_12 (a b c d e f g h i j k l : D) : roundTK C tab68 68 (loopOf C.P 68 12) 1 l68_12 [a, b, c, d, e, f, g, h, i, j, k, l] =
  T.ite (decide (j.I < i.I)) (T.need (decide ((0 : Int) ≤ j.I ∧ j.I < (h.L.length : Int))) (T.need (decide ((0 : Int) ≤ D.I (List.getD (List.getD h.L j.I.toNat []) 0 default) ∧ D.I (List.getD (List.getD h.L j.I.toNat []) 0 default) < (c.I.toNat : Int))) (T.need (decide (Int.toNat (D.I (List.getD (List.getD h.L j.I.toNat []) 0 default)) < k.L.length)) (T.need (decide ((0 : Int) ≤ D.I (List.getD (List.getD h.L j.I.toNat []) (0 + 1) default) ∧ D.I (List.getD (List.getD h.L j.I.toNat []) (0 + 1) default) < (c.I.toNat : Int))) (T.need (decide (Int.toNat (D.I (List.getD (List.getD h.L j.I.toNat []) (0 + 1) default)) < k.L.length)) (T.ite (decide (IntKind.wrap IntKind.i64 (D.I (List.getD (List.getD k.L (Int.toNat (D.I (List.getD (List.getD h.L j.I.toNat []) 0 default))) []) 0 default) + D.I (List.getD (List.getD h.L j.I.toNat []) (0 + 1 + 1) default)) > D.I (List.getD (List.getD k.L (Int.toNat (D.I (List.getD (List.getD h.L j.I.toNat []) (0 + 1) default))) []) 0 default))) (T.need (decide ((0 : Int) ≤ D.I (List.getD (List.getD h.L j.I.toNat []) (0 + 1) default) ∧ D.I (List.getD (List.getD h.L j.I.toNat []) (0 + 1) default) < (c.I.toNat : Int))) (T.need (decide (Int.toNat (D.I (List.getD (List.getD h.L j.I.toNat []) (0 + 1) default)) < k.L.length)) (T.need (decide ((0 : Int) ≤ D.I (List.getD (List.getD h.L j.I.toNat []) (0 + 1) default) ∧ D.I (List.getD (List.getD h.L j.I.toNat []) (0 + 1) default) < (d.I.toNat : Int))) (T.need (decide (Int.toNat (D.I (List.getD (List.getD h.L j.I.toNat []) (0 + 1) default)) < l.L.length)) (T.leaf (Rd.again [D.i a.I, D.l b.L, D.i (c.I.toNat : Int), D.i (d.I.toNat : Int), D.i (D.I (List.getD (List.getD h.L j.I.toNat []) (0 + 1) default)), D.i f.I, D.i g.I, D.l h.L, D.i i.I, D.i (IntKind.wrap IntKind.i64 (j.I + (1 : Int))), D.l (List.set k.L (Int.toNat (D.I (List.getD (List.getD h.L j.I.toNat []) (0 + 1) default))) (updC (List.getD k.L (Int.toNat (D.I (List.getD (List.getD h.L j.I.toNat []) (0 + 1) default))) []) [D.i (IntKind.wrap IntKind.i64 (D.I (List.getD (List.getD k.L (Int.toNat (D.I (List.getD (List.getD h.L j.I.toNat []) 0 default))) []) 0 default) + D.I (List.getD (List.getD h.L j.I.toNat []) (0 + 1 + 1) default)))] 0 0 (List.length [K.int IntKind.i64]))), D.l (List.set l.L (Int.toNat (D.I (List.getD (List.getD h.L j.I.toNat []) (0 + 1) default))) (updC (List.getD l.L (Int.toNat (D.I (List.getD (List.getD h.L j.I.toNat []) (0 + 1) default))) []) [D.i j.I] 0 0 (List.length [K.int IntKind.i64])))])))))) (T.leaf (Rd.again [D.i a.I, D.l b.L, D.i (c.I.toNat : Int), D.i (d.I.toNat : Int), D.i e.I, D.i f.I, D.i g.I, D.l h.L, D.i i.I, D.i (IntKind.wrap IntKind.i64 (j.I + (1 : Int))), D.l k.L, D.l l.L])))))))) (T.leaf (Rd.out (Ex.exit 4) [D.i a.I, D.l b.L, D.i (c.I.toNat : Int), D.i (d.I.toNat : Int), D.i e.I, D.i f.I, D.i g.I, D.l k.L, D.l l.L])) := by kernel_rfl
end Go.Proofs.Ytipbcpobnciccaa
namespace Go.Proofs.Ytipbcpobnciccaa
open Go.Lite
set_option maxRecDepth 100000
theorem len_rs (R : List (List D)) (j : Nat) (v : Int) : (rs R j v).length = R.length := by simp [rs]
theorem rg_rs {R : List (List D)} {j : Nat} (hj : j < R.length) (v : Int) (i : Nat) : rg (rs R j v) i = if i = j then v else rg R i := by
  unfold rg rs
  simp only [List.getD_eq_getElem?_getD, List.getElem?_set]
  by_cases e : i = j
  · subst e; simp [hj, ix, D.I]
  · rw [if_neg (fun h => e h.symm), if_neg e]
theorem rg_ge {R : List (List D)} {j : Nat} (hj : R.length ≤ j) : rg R j = 0 := by
  unfold rg
  rw [List.getD_eq_getElem?_getD, List.getElem?_eq_none hj]
  rfl
theorem rg_def (R : List (List D)) (j : Nat) : ((R.getD j []).getD 0 default).I = rg R j := rfl
theorem rs_def (R : List (List D)) (j : Nat) (v : Int) : R.set j [.i v] = rs R j v := rfl
theorem rg_rep {n j : Nat} {v : Int} (hj : j < n) : rg (List.replicate n [.i v]) j = v := by
  unfold rg
  rw [List.getD_eq_getElem?_getD, List.getElem?_replicate, if_pos hj]
  rfl
theorem len_extraF : ∀ (i k : Nat), (extraF i k).length = k
  | _, 0 => rfl
  | i, k + 1 => by simp [extraF, len_extraF (i + 1) k]
theorem extraF_get : ∀ {i k j : Nat}, j < k → (extraF i k).getD j [] = [.i 0, .i ((i + j : Nat) : Int), .i 0]
  | i, k + 1, 0, _ => by simp [extraF]
  | i, k + 1, j + 1, h => by
    have := extraF_get (i := i + 1) (k := k) (j := j) (by omega)
    simp only [extraF, List.getD_cons_succ, this]
    rw [show i + 1 + j = i + (j + 1) by omega]
theorem extraF_snoc : ∀ (i k : Nat) (r : List (List D)), r ++ [[.i 0, .i (i : Int), .i 0]] ++ extraF (i + 1) k = r ++ extraF i (k + 1) := fun i k r => by simp [extraF]
theorem len_stepR (l : List (List D)) (i : Nat) (s : RSt) : (stepR l i s).1.length = s.1.length ∧ (stepR l i s).2.1.length = s.2.1.length := by
  unfold stepR
  split
  · exact ⟨len_rs .., len_rs ..⟩
  · exact ⟨rfl, rfl⟩
theorem len_passR (l : List (List D)) : ∀ (k i : Nat) (s : RSt), (passR l i k s).1.length = s.1.length ∧ (passR l i k s).2.1.length = s.2.1.length
  | 0, _, _ => ⟨rfl, rfl⟩
  | k + 1, i, s => by
    have h1 := len_passR l k (i + 1) (stepR l i s)
    have h2 := len_stepR l i s
    exact ⟨h1.1.trans h2.1, h1.2.trans h2.2⟩
theorem room_step {n : Int} {l : List (List D)} (hl : goodL n l) {i : Nat} (hi : i < l.length) {s : RSt} (hs : (s.1.length : Int) = n) {k : Int} (h : room s.1 (k + 1)) : room (stepR l i s).1 k := by
  obtain ⟨M, h1, h2⟩ := h
  obtain ⟨h3, h4, h5⟩ := hl.2.2.2 i hi
  have h0 := h1 0
  refine ⟨M + 1000000, fun j => ?_, by omega⟩
  have hj := h1 j
  unfold stepR
  split
  · simp only
    rw [rg_rs (by omega)]
    split
    · have := h1 (lkF l i).toNat; omega
    · omega
  · omega
theorem room_pass {n : Int} {l : List (List D)} (hl : goodL n l) : ∀ (k i : Nat), i + k ≤ l.length → ∀ {s : RSt}, (s.1.length : Int) = n → ∀ {q : Int}, room s.1 (q + k) → room (passR l i k s).1 q
  | 0, _, _, s, _, q, h => by
    have e : q + ((0 : Nat) : Int) = q := by omega
    rw [e] at h; exact h
  | k + 1, i, hk, s, hs, q, h => by
    refine room_pass hl k (i + 1) (by omega) (by rw [(len_stepR l i s).1]; exact hs) (room_step hl (by omega) hs ?_)
    have e : q + ((k + 1 : Nat) : Int) = q + k + 1 := by omega
    rw [e] at h; exact h
theorem room_rg {t : List (List D)} {k : Int} (h : room t k) (hk : 0 ≤ k) (j : Nat) : -4611686018427387904 ≤ rg t j ∧ rg t j ≤ 4611686018427387904 := by
  obtain ⟨M, h1, h2⟩ := h
  have := h1 j
  omega
theorem rep_set : ∀ (i k : Nat) (a b : List D), (List.replicate i a ++ List.replicate (k + 1) b).set i a = List.replicate (i + 1) a ++ List.replicate k b
  | 0, k, a, b => by simp [List.replicate_succ]
  | i + 1, k, a, b => by
    have := rep_set i k a b
    rw [List.replicate_succ (n := i), List.replicate_succ (n := i + 1), List.cons_append, List.set_cons_succ, this]
    rfl
theorem ok68_12 (n : Nat) : LoopSimK C (n + 0) 1 68 (loopOf C.P 68 12) (mkLK 1 l68_12 G68_12) := by
  refine loop_ofK hC (sp := sp68) (lp := lp68) (sw := sw68) trivial trivial 1 [] (by kernel_rfl) rfl (fun k hk => by cases hk) (by kernel_rfl) (fun ds => ((ds.getD 8 default).I - (ds.getD 9 default).I).toNat) fun ds rr h => ?_
  unfold G68_12 at h
  split at h
  · rename_i n l m q r k i a b c t u
    obtain ⟨hp, h⟩ := need_some h
    rw [yes_iff] at hp
    obtain ⟨⟨g1, g2, g3, g4⟩, h2, h3, h4, h5, h6, h7, h8, h9, h10⟩ := hp
    have hb := big_eq
    refine ⟨by rw [fuelC]; simp; omega, ?_⟩
    rw [show roundTK C (mkTab sp68 lp68 sw68) 68 (loopOf C.P 68 12) 1 l68_12 [n, l, m, q, r, k, i, a, b, c, t, u] = _ from t68_12 n l m q r k i a b c t u]
    obtain ⟨j, hj⟩ : ∃ j : Nat, c.I = j := ⟨c.I.toNat, by omega⟩
    have hg : goodL n.I l.L := ⟨g1, g2, g3, g4⟩
    simp only [hj, h2, h3, h4, h5, Int.toNat_natCast, upd1, Nat.zero_add, Nat.reduceAdd] at h h6 h7 h10 ⊢
    refine rd_if (fun hlt => ?_) fun hge => rd_out ?_
    · have hjl : j < l.L.length := by omega
      obtain ⟨f1, f2, f3⟩ := g4 j hjl
      have e1 : ((l.L.getD j []).getD 0 default).I = lkF l.L j := rfl
      have e2 : ((l.L.getD j []).getD 1 default).I = lkT l.L j := rfl
      have e3 : ((l.L.getD j []).getD 2 default).I = lkW l.L j := rfl
      have h0 := room_rg h10 (by omega) (lkF l.L j).toNat
      simp only [e1, e2, e3, rg_def, rs_def]
      have w : IntKind.i64.wrap (rg t.L (lkF l.L j).toNat + lkW l.L j) = rg t.L (lkF l.L j).toNat + lkW l.L j := wrap_id (by omega) (by omega)
      rw [w, wrap_succ (by omega)]
      have e4 : l.L.length - j = (l.L.length - (j + 1)) + 1 := by omega
      rw [e4] at h
      simp only [passR] at h
      have hroom : room (stepR l.L j (t.L, u.L, r.I)).1 ((l.L.length : Int) - ((j + 1 : Nat) : Int)) := room_step hg hjl (s := (t.L, u.L, r.I)) h8 (by
        have : (l.L.length : Int) - ((j + 1 : Nat) : Int) + 1 = l.L.length - j := by omega
        rw [this]; exact h10)
      have hmu : ((l.L.length : Int) - ((j + 1 : Nat) : Int)).toNat < ((b.I) - c.I).toNat := by omega
      refine rd_dec ⟨by omega, by omega⟩ (rd_dec ⟨by omega, by omega⟩ (rd_dec (by omega) (rd_dec ⟨by omega, by omega⟩ (rd_dec (by omega) (rd_if (fun hgt => ?_) fun hle => ?_)))))
      · have hst : stepR l.L j (t.L, u.L, r.I) = (rs t.L (lkT l.L j).toNat (rg t.L (lkF l.L j).toNat + lkW l.L j), rs u.L (lkT l.L j).toNat j, lkT l.L j) := if_pos hgt
        rw [hst] at h hroom
        refine rd_dec ⟨by omega, by omega⟩ (rd_dec (by omega) (rd_dec ⟨by omega, by omega⟩ (rd_dec (by omega) (rd_again ((need_yes ⟨hg, by simp only [I_i]; omega, by simp only [I_i]; omega, rfl, rfl, by simp only [I_i]; omega, by simp only [I_i, L_l]; omega, by simp only [L_l, len_rs, I_i]; exact h8, by simp only [L_l, len_rs, I_i]; exact h9, hroom⟩).trans ?_) hmu))))
        simp only [L_l, I_i, Int.toNat_natCast]
        exact h
      · have hst : stepR l.L j (t.L, u.L, r.I) = (t.L, u.L, r.I) := if_neg hle
        rw [hst] at h hroom
        refine rd_again ((need_yes ⟨hg, by simp only [I_i]; omega, by simp only [I_i]; omega, rfl, rfl, by simp only [I_i]; omega, by simp only [I_i, L_l]; omega, h8, h9, hroom⟩).trans ?_) hmu
        simp only [L_l, I_i, Int.toNat_natCast]
        exact h
    · rw [← h]
      have e5 : l.L.length - j = 0 := by omega
      have e6 : ((n.I.toNat : Nat) : Int) = n.I := by omega
      simp only [e5, passR, run_leaf, e6]
  · cases h
theorem ok68_9 (n : Nat) : LoopSimK C (n + 0) 1 68 (loopOf C.P 68 9) (mkLK 1 l68_9 G68_9) := by
  refine loop_ofK hC (sp := sp68) (lp := lp68) (sw := sw68) trivial trivial 1 [12] (by kernel_rfl) (by kernel_rfl) (fun k hk L hL => by simp at hk; subst hk; cases hL; exact ok68_12 n) (by kernel_rfl) (fun ds => ((ds.getD 5 default).I - (ds.getD 6 default).I).toNat) fun ds rr h => ?_
  unfold G68_9 at h
  split at h
  · rename_i n l m q r k i t u
    obtain ⟨hp, h⟩ := need_some h
    rw [yes_iff] at hp
    obtain ⟨⟨g1, g2, g3, g4⟩, h2, h3, h4, h5, h6, h7, h8, h9⟩ := hp
    have hb := big_eq
    refine ⟨by rw [fuelC]; simp; omega, ?_⟩
    rw [show roundTK C (mkTab sp68 lp68 sw68) 68 (loopOf C.P 68 9) 1 l68_9 [n, l, m, q, r, k, i, t, u] = _ from t68_9 n l m q r k i t u]
    obtain ⟨j, hj⟩ : ∃ j : Nat, i.I = j := ⟨i.I.toNat, by omega⟩
    have hg : goodL n.I l.L := ⟨g1, g2, g3, g4⟩
    have e6 : ((n.I.toNat : Nat) : Int) = n.I := by omega
    simp only [hj, h2, h3, h4, Int.toNat_zero, Nat.sub_zero, Int.sub_zero, e6] at h h6 h9 ⊢
    refine rd_if (fun hlt => ?_) fun hge => rd_out ?_
    · have e7 : (n.I + 1 - (j : Int)).toNat = (n.I + 1 - ((j + 1 : Nat) : Int)).toNat + 1 := by omega
      rw [e7] at h
      simp only [roundsR] at h
      have hr1 : room t.L (l.L.length * (n.I + 1 - ((j + 1 : Nat) : Int)) + (l.L.length : Int)) := by
        have : (l.L.length : Int) * (n.I + 1 - ((j + 1 : Nat) : Int)) + l.L.length = l.L.length * (n.I + 1 - j) := by
          rw [show n.I + 1 - (j : Int) = (n.I + 1 - ((j + 1 : Nat) : Int)) + 1 by omega, Int.mul_add, Int.mul_one]
        rw [this]; exact h9
      have hr0 : room t.L (l.L.length : Int) := by
        obtain ⟨M, m1, m2⟩ := hr1
        have h0 := m1 0
        have : 0 ≤ (l.L.length : Int) * (n.I + 1 - ((j + 1 : Nat) : Int)) := Int.mul_nonneg (by omega) (by omega)
        exact ⟨M, m1, by rw [Int.mul_add] at m2; omega⟩
      have hr2 := room_pass hg l.L.length 0 (by omega) (s := (t.L, u.L, -1)) h7 hr1
      have hl2 := len_passR l.L l.L.length 0 (t.L, u.L, -1)
      refine rd_yes ⟨hg, by trivial, by trivial, by trivial, by trivial, by omega, by omega, h7, h8, hr0⟩ (rd_if (fun hc => rd_out ?_) fun hc => ?_)
      · rw [if_pos hc] at h
        exact h
      · rw [if_neg hc] at h
        rw [wrap_succ (by omega)]
        refine rd_again ((need_yes ⟨hg, by simp only [I_i], by simp only [I_i], by simp only [I_i], by simp only [I_i]; omega, by simp only [I_i]; omega, by simp only [L_l, I_i, hl2.1]; exact h7, by simp only [L_l, I_i, hl2.2]; exact h8, by simp only [L_l, I_i]; exact hr2⟩).trans ?_) (show (n.I + 1 - ((j + 1 : Nat) : Int)).toNat < (k.I - i.I).toNat by omega)
        simp only [L_l, I_i]
        exact h
    · rw [← h]
      have e5 : (n.I + 1 - (j : Int)).toNat = 0 := by omega
      simp only [e5, roundsR, run_leaf]
  · cases h
theorem ok68_3 (n : Nat) : LoopSimK C (n + 0) 1 68 (loopOf C.P 68 3) (mkLK 1 l68_3 G68_3) := by
  refine loop_ofK hC (sp := sp68) (lp := lp68) (sw := sw68) trivial trivial 1 [] (by kernel_rfl) rfl (fun k hk => by cases hk) (by kernel_rfl) (fun ds => ((ds.getD 4 default).I - (ds.getD 5 default).I).toNat) fun ds rr h => ?_
  unfold G68_3 at h
  split at h
  · rename_i n l m q k i t u
    obtain ⟨hp, h⟩ := need_some h
    rw [yes_iff] at hp
    obtain ⟨h1, h2, h0, h3, h4, h5, h6, h7⟩ := hp
    have hb := big_eq
    refine ⟨by rw [fuelC]; simp; omega, ?_⟩
    rw [show roundTK C (mkTab sp68 lp68 sw68) 68 (loopOf C.P 68 3) 1 l68_3 [n, l, m, q, k, i, t, u] = _ from t68_3 n l m q k i t u]
    obtain ⟨j, hj⟩ : ∃ j : Nat, i.I = j := ⟨i.I.toNat, by omega⟩
    have e6 : ((n.I.toNat : Nat) : Int) = n.I := by omega
    simp only [hj, h0, h3, h4, h7, Int.toNat_natCast, upd1, e6] at h h6 ⊢
    refine rd_if (fun hlt => ?_) fun hge => rd_out ?_
    · refine rd_dec ⟨by omega, by omega⟩ (rd_dec (by simp only [List.length_append, List.length_replicate]; omega) ?_)
      rw [wrap_succ (by omega)]
      have e7 : (n.I - (j : Int)).toNat = (n.I - ((j + 1 : Nat) : Int)).toNat + 1 := by omega
      rw [e7, rep_set]
      refine rd_again ((need_yes ⟨h1, h2, by simp only [I_i], by simp only [I_i], by simp only [I_i], by simp only [I_i]; omega, by simp only [I_i]; omega, by simp only [L_l, I_i, Int.toNat_natCast]⟩).trans ?_) (show (n.I - ((j + 1 : Nat) : Int)).toNat < (k.I - i.I).toNat by omega)
      rw [← h]
      rfl
    · rw [← h]
      have e5 : (n.I - (j : Int)).toNat = 0 := by omega
      have e8 : j = n.I.toNat := by omega
      rw [e5, e8]
      simp only [List.replicate_zero, List.append_nil, run_leaf]
  · cases h
theorem ok68 (n : Nat) : FnOKW C (n + 1) 68 (mkFW s68 G68) := by
  refine fn_ofW hC (sp := sp68) (lp := lp68) (sw := sw68) trivial trivial (by kernel_rfl) [3, 9] (by kernel_rfl) (by kernel_rfl) (fun k hk L hL => by
      simp at hk
      rcases hk with rfl | rfl <;> cases hL
      · exact ok68_3 n
      · exact ok68_9 n) fun ds rr h => ?_
  unfold G68 at h
  split at h
  · rename_i n l m t
    obtain ⟨hp, h⟩ := need_some h
    rw [yes_iff] at hp
    obtain ⟨⟨g1, g2, g3, g4⟩, h2, h3, h4⟩ := hp
    refine (congrArg T.run (t68 n l m t)).trans ?_
    have hg : goodL n.I l.L := ⟨g1, g2, g3, g4⟩
    have e6 : ((n.I.toNat : Nat) : Int) = n.I := by omega
    rw [← h]
    have hroom : room t.L ((l.L.length : Int) * (n.I + 1 - 0)) := by
      refine ⟨1099511627776, h4, ?_⟩
      have : (l.L.length : Int) * (n.I + 1 - 0) ≤ 5500 * 501 := Int.mul_le_mul (by omega) (by omega) (by omega) (by omega)
      omega
    have w : IntKind.i64.wrap (n.I + 1) = n.I + 1 := wrap_id (by omega) (by omega)
    have e7 : (n.I + 1 - 0).toNat = n.I.toNat + 1 := by omega
    simp only [Int.toNat_zero, h2, e6, w, List.length_replicate, bytes3, e7]
    refine go_dec ⟨by omega, by trivial, by omega, by omega⟩ (go_yes ⟨g1, g2, by trivial, by trivial, by trivial, by omega, by omega, by simp⟩ (go_yes ⟨hg, by trivial, by trivial, by trivial, by omega, by omega, h3, by trivial, hroom⟩ ?_))
    rfl
  · cases h
end Go.Proofs.Ytipbcpobnciccaa
namespace Go.Proofs.Ytipbcpobnciccaa
open Go.Lite
noncomputable section
def zeros (n : Int) : List (List D) := List.replicate n.toNat [.i 0]
def backI (n : Int) (l b : List (List D)) (v : Int) : Int := if rg b v.toNat < 0 then (l.length : Int) - n + v else rg b v.toNat
def predI (n : Int) (l b : List (List D)) (v : Int) : Int := lkF l (backI n l b v).toNat
def stepsTo (n : Int) (l b : List (List D)) (v e : Int) : Nat → Nat → Nat
  | k, 0 => k
  | k, f + 1 => if v = e then k else stepsTo n l b (predI n l b v) e (k + 1) f
def dist (n : Int) (l b : List (List D)) (v e : Int) : Nat := stepsTo n l b v e 0 501
def chainF (n : Int) (l b : List (List D)) : Nat → Int → List (List D)
  | 0, _ => []
  | k + 1, v => [.i (backI n l b v)] :: chainF n l b k (predI n l b v)
def circle (n : Int) (l b : List (List D)) (v : Int) : List (List D) := [.i (backI n l b v)] :: chainF n l b (dist n l b (predI n l b v) v) (predI n l b v)
end
end Go.Proofs.Ytipbcpobnciccaa
namespace Go.Lite
structure Net where
  n : Nat
  m : Nat
  f : Nat → Nat
  t : Nat → Nat
  w : Nat → Int
structure Net.OK (E : Net) : Prop where
  f : ∀ i, i < E.m → E.f i < E.n
  t : ∀ i, i < E.m → E.t i < E.n
def Net.kept (E : Net) (p : Nat → Int) : Prop := ∀ i, i < E.m → p (E.f i) + E.w i ≤ p (E.t i)
def upd {α : Type} (x : Nat → α) (i : Nat) (v : α) : Nat → α := fun j => if j = i then v else x j
structure Rz where
  t : Nat → Int
  b : Nat → Int
  r : Int
  lst : Nat → Nat
  lv : Nat → Nat
  c : Nat
def Net.step (E : Net) (ρ i : Nat) (s : Rz) : Rz :=
  if s.t (E.f i) + E.w i > s.t (E.t i) then
    { t := upd s.t (E.t i) (s.t (E.f i) + E.w i), b := upd s.b (E.t i) i, r := E.t i, lst := upd s.lst (E.t i) (s.c + 1), lv := upd s.lv (E.t i) ρ, c := s.c + 1 }
  else s
def Net.pass (E : Net) (ρ : Nat) : Nat → Nat → Rz → Rz
  | _, 0, s => s
  | i, k + 1, s => E.pass ρ (i + 1) k (E.step ρ i s)
def Net.rounds (E : Net) : Nat → Nat → Rz → Rz
  | _, 0, s => s
  | ρ, k + 1, s => if (E.pass ρ 0 E.m { s with r := -1 }).r < 0 then E.pass ρ 0 E.m { s with r := -1 } else E.rounds (ρ + 1) k (E.pass ρ 0 E.m { s with r := -1 })
def Rz.start (t : Nat → Int) : Rz := ⟨t, fun _ => -1, -1, fun _ => 0, fun _ => 0, 0⟩
section
variable {E : Net}
theorem Net.step_le (ρ i : Nat) (s : Rz) (j : Nat) : s.t j ≤ (E.step ρ i s).t j := by
  unfold Net.step
  split
  · simp only [upd]; split
    · rename_i h1 h2; subst h2; omega
    · exact Int.le_refl _
  · exact Int.le_refl _
theorem Net.pass_le (ρ : Nat) : ∀ (k i : Nat) (s : Rz) (j : Nat), s.t j ≤ (E.pass ρ i k s).t j
  | 0, _, _, _ => Int.le_refl _
  | k + 1, i, s, j => Int.le_trans (Net.step_le ρ i s j) (Net.pass_le ρ k (i + 1) _ j)
theorem Net.rounds_le : ∀ (k ρ : Nat) (s : Rz) (j : Nat), s.t j ≤ (E.rounds ρ k s).t j
  | 0, _, _, _ => Int.le_refl _
  | k + 1, ρ, s, j => by
    have h1 := Net.pass_le (E := E) ρ E.m 0 { s with r := -1 } j
    simp only [Net.rounds]
    split
    · exact h1
    · exact Int.le_trans h1 (Net.rounds_le k (ρ + 1) _ j)
theorem Net.step_ub {p : Nat → Int} (hp : E.kept p) {ρ i : Nat} (hi : i < E.m) {s : Rz} (h : ∀ j, s.t j ≤ p j) (j : Nat) : (E.step ρ i s).t j ≤ p j := by
  unfold Net.step
  split
  · simp only [upd]; split
    · rename_i h2; subst h2
      have := hp i hi
      have := h (E.f i)
      omega
    · exact h j
  · exact h j
theorem Net.pass_ub {p : Nat → Int} (hp : E.kept p) {ρ : Nat} : ∀ (k i : Nat), i + k ≤ E.m → ∀ (s : Rz), (∀ j, s.t j ≤ p j) → ∀ j, (E.pass ρ i k s).t j ≤ p j
  | 0, _, _, _, h => h
  | k + 1, i, hk, s, h => Net.pass_ub hp k (i + 1) (by omega) _ (Net.step_ub hp (by omega) h)
theorem Net.rounds_ub {p : Nat → Int} (hp : E.kept p) : ∀ (k ρ : Nat) (s : Rz), (∀ j, s.t j ≤ p j) → ∀ j, (E.rounds ρ k s).t j ≤ p j
  | 0, _, _, h => h
  | k + 1, ρ, s, h => by
    have h1 := Net.pass_ub (ρ := ρ) hp E.m 0 (by omega) { s with r := -1 } h
    simp only [Net.rounds]
    split
    · exact h1
    · exact Net.rounds_ub hp k (ρ + 1) _ h1
theorem Net.step_r (ρ i : Nat) (s : Rz) : ((E.step ρ i s).r < 0 → E.step ρ i s = s) ∧ (s.r ≥ 0 → (E.step ρ i s).r ≥ 0) := by
  unfold Net.step
  split
  · exact ⟨fun h => by simp only at h; omega, fun _ => by simp only; omega⟩
  · exact ⟨fun _ => rfl, fun h => h⟩
theorem Net.pass_kept (ρ : Nat) : ∀ (k i : Nat) (s : Rz), (E.pass ρ i k s).r < 0 → E.pass ρ i k s = s ∧ ∀ j, i ≤ j → j < i + k → s.t (E.f j) + E.w j ≤ s.t (E.t j)
  | 0, _, _, _ => ⟨rfl, fun j h1 h2 => by omega⟩
  | k + 1, i, s, h => by
    simp only [Net.pass] at h ⊢
    obtain ⟨h1, h2⟩ := Net.pass_kept ρ k (i + 1) _ h
    rw [h1] at h ⊢
    have h3 := (Net.step_r ρ i s).1 h
    rw [h3] at h2 ⊢
    refine ⟨rfl, fun j h4 h5 => ?_⟩
    by_cases hj : j = i
    · subst hj
      unfold Net.step at h3
      split at h3
      · rename_i hgt
        have := congrArg Rz.c h3
        simp only at this
        omega
      · omega
    · exact h2 j (by omega) (by omega)
theorem Net.rounds_kept : ∀ (k ρ : Nat) (s : Rz), 0 < k → (E.rounds ρ k s).r < 0 → E.kept (E.rounds ρ k s).t
  | 0, _, _, h, _ => by omega
  | k + 1, ρ, s, _, h => by
    simp only [Net.rounds] at h ⊢
    split at h
    · rename_i hr
      rw [if_pos hr]
      obtain ⟨h1, h2⟩ := Net.pass_kept ρ E.m 0 _ hr
      rw [h1]
      exact fun i hi => h2 i (Nat.zero_le _) (by omega)
    · rename_i hr
      rw [if_neg hr]
      cases k with
      | zero => simp only [Net.rounds] at h; exact absurd h hr
      | succ k => exact Net.rounds_kept (k + 1) (ρ + 1) _ (by omega) h
structure Rz.Inv (E : Net) (s : Rz) (ρ i : Nat) : Prop where
  by_ : ∀ v, 0 ≤ s.b v → ∃ e : Nat, s.b v = e ∧ e < E.m ∧ E.t e = v ∧ s.t v ≤ s.t (E.f e) + E.w e ∧ ((s.lst v < s.lst (E.f e) ∨ E.f e = v) → s.t v < s.t (E.f e) + E.w e) ∧ s.lv v ≤ s.lv (E.f e) + 1
  none_ : ∀ v, s.b v < 0 → s.b v = -1 ∧ s.lst v = 0 ∧ s.lv v = 0
  lst_ : ∀ v, s.lst v ≤ s.c
  pos_ : ∀ v, 0 ≤ s.b v → 0 < s.lst v
  inj_ : ∀ u v, 0 ≤ s.b u → 0 ≤ s.b v → s.lst u = s.lst v → u = v
  lv_ : ∀ v, s.lv v ≤ ρ
  past_ : ∀ j, j < E.m → j < i → s.lv (E.f j) < ρ → s.t (E.f j) + E.w j ≤ s.t (E.t j)
  rest_ : ∀ j, j < E.m → s.lv (E.f j) + 1 < ρ → s.t (E.f j) + E.w j ≤ s.t (E.t j)
theorem Rz.start_inv (t : Nat → Int) : (Rz.start t).Inv E 1 0 where
  by_ v h := by simp only [Rz.start] at h; omega
  none_ v _ := ⟨rfl, rfl, rfl⟩
  lst_ v := Nat.le_refl _
  pos_ v h := by simp only [Rz.start] at h; omega
  inj_ u v h := by simp only [Rz.start] at h; omega
  lv_ v := Nat.zero_le _
  past_ j _ h := by omega
  rest_ j _ h := by omega
theorem Rz.Inv.step {s : Rz} {ρ i : Nat} (I : s.Inv E ρ i) (hi : i < E.m) : (E.step ρ i s).Inv E ρ (i + 1) := by
  unfold Net.step
  split
  · rename_i hgt
    have hlv : ρ ≤ s.lv (E.f i) + 1 := by
      apply Classical.byContradiction
      intro hn
      have := I.rest_ i hi (by omega)
      omega
    constructor
    · intro v hv
      by_cases e : v = E.t i
      · subst e
        refine ⟨i, by simp [upd], hi, rfl, ?_, ?_, ?_⟩
        · simp only [upd, if_true]
          split
          · rename_i h; rw [h] at hgt ⊢; omega
          · exact Int.le_refl _
        · simp only [upd, if_true]
          rintro (h | h)
          · split at h
            · omega
            · have := I.lst_ (E.f i); omega
          · rw [if_pos h, h] ; rw [h] at hgt; omega
        · simp only [upd, if_true]
          split
          · omega
          · exact hlv
      · simp only [upd, e, if_false] at hv ⊢
        obtain ⟨e', h1, h2, h3, h4, h5, h6⟩ := I.by_ v hv
        refine ⟨e', h1, h2, h3, ?_, ?_, ?_⟩
        · split
          · rename_i h; rw [h] at h4; omega
          · exact h4
        · intro h
          split at h
          · rename_i hf
            rw [if_pos hf, ]
            rw [hf] at h4
            omega
          · rename_i hf
            rw [if_neg hf]
            exact h5 h
        · split
          · have := I.lv_ v; omega
          · exact h6
    · intro v hv
      by_cases e : v = E.t i
      · subst e; simp only [upd, if_true] at hv; omega
      · simp only [upd, e, if_false] at hv ⊢
        exact I.none_ v hv
    · intro v
      simp only [upd]
      split
      · exact Nat.le_refl _
      · have := I.lst_ v; omega
    · intro v hv
      by_cases e : v = E.t i
      · subst e; simp [upd]
      · simp only [upd, e, if_false] at hv ⊢
        exact I.pos_ v hv
    · intro u v hu hv h
      by_cases eu : u = E.t i <;> by_cases ev : v = E.t i
      · rw [eu, ev]
      · simp only [upd, eu, ev, if_true, if_false] at h
        have := I.lst_ v; omega
      · simp only [upd, eu, ev, if_true, if_false] at h
        have := I.lst_ u; omega
      · simp only [upd, eu, ev, if_false] at hu hv h
        exact I.inj_ u v hu hv h
    · intro v
      simp only [upd]
      split
      · exact Nat.le_refl _
      · exact I.lv_ v
    · intro j hj hji hlt
      simp only [upd] at hlt ⊢
      by_cases ef : E.f j = E.t i
      · rw [if_pos ef] at hlt; omega
      · rw [if_neg ef] at hlt ⊢
        by_cases hje : j = i
        · subst hje; simp
        · have := I.past_ j hj (by omega) hlt
          split
          · rename_i h; rw [h] at this; omega
          · exact this
    · intro j hj hlt
      simp only [upd] at hlt ⊢
      by_cases ef : E.f j = E.t i
      · rw [if_pos ef] at hlt; omega
      · rw [if_neg ef] at hlt ⊢
        have := I.rest_ j hj hlt
        split
        · rename_i h; rw [h] at this; omega
        · exact this
  · rename_i hle
    exact ⟨I.by_, I.none_, I.lst_, I.pos_, I.inj_, I.lv_, fun j hj hji hlt => by
      by_cases e : j = i
      · subst e; omega
      · exact I.past_ j hj (by omega) hlt, I.rest_⟩
theorem Rz.Inv.pass {ρ : Nat} : ∀ (k i : Nat), i + k ≤ E.m → ∀ {s : Rz}, s.Inv E ρ i → (E.pass ρ i k s).Inv E ρ (i + k)
  | 0, _, _, _, I => I
  | k + 1, i, hk, s, I => by
    have := Rz.Inv.pass k (i + 1) (by omega) (I.step (by omega))
    rw [show i + 1 + k = i + (k + 1) by omega] at this
    exact this
theorem Rz.Inv.next {s : Rz} {ρ : Nat} (I : s.Inv E ρ E.m) : s.Inv E (ρ + 1) 0 :=
  ⟨I.by_, I.none_, I.lst_, I.pos_, I.inj_, fun v => Nat.le_trans (I.lv_ v) (by omega), fun j _ h => by omega, fun j hj h => I.past_ j hj hj (by omega)⟩
theorem Rz.Inv.clear {s : Rz} {ρ i : Nat} (I : s.Inv E ρ i) (r : Int) : Rz.Inv E { s with r := r } ρ i := ⟨I.by_, I.none_, I.lst_, I.pos_, I.inj_, I.lv_, I.past_, I.rest_⟩
theorem Net.step_last {ρ i : Nat} {s : Rz} (h : 0 ≤ s.r → ∃ v : Nat, s.r = v ∧ s.lv v = ρ ∧ v < E.n) (hE : E.OK) (hi : i < E.m) : 0 ≤ (E.step ρ i s).r → ∃ v : Nat, (E.step ρ i s).r = v ∧ (E.step ρ i s).lv v = ρ ∧ v < E.n := by
  unfold Net.step
  split
  · intro _
    exact ⟨E.t i, rfl, by simp [upd], hE.t i hi⟩
  · exact h
theorem Net.pass_last (hE : E.OK) {ρ : Nat} : ∀ (k i : Nat), i + k ≤ E.m → ∀ (s : Rz), (0 ≤ s.r → ∃ v : Nat, s.r = v ∧ s.lv v = ρ ∧ v < E.n) → 0 ≤ (E.pass ρ i k s).r → ∃ v : Nat, (E.pass ρ i k s).r = v ∧ (E.pass ρ i k s).lv v = ρ ∧ v < E.n
  | 0, _, _, _, h => h
  | k + 1, i, hk, s, h => Net.pass_last hE k (i + 1) (by omega) _ (Net.step_last h hE (by omega))
theorem Net.rounds_inv (hE : E.OK) : ∀ (k ρ : Nat) (s : Rz), 0 < ρ → s.Inv E ρ 0 → 0 < k → ∃ ρ', ρ' ≤ ρ + k - 1 ∧ (E.rounds ρ k s).Inv E ρ' E.m ∧ (0 ≤ (E.rounds ρ k s).r → ρ' = ρ + k - 1 ∧ ∃ v : Nat, (E.rounds ρ k s).r = v ∧ (E.rounds ρ k s).lv v = ρ' ∧ v < E.n)
  | 0, _, _, _, _, h => by omega
  | k + 1, ρ, s, hρ, I, _ => by
    have I1 := Rz.Inv.pass E.m 0 (by omega) (I.clear (-1))
    rw [Nat.zero_add] at I1
    simp only [Net.rounds]
    split
    · rename_i hr
      exact ⟨ρ, by omega, I1, fun h => by omega⟩
    · rename_i hr
      cases k with
      | zero =>
        simp only [Net.rounds]
        exact ⟨ρ, by omega, I1, fun h => ⟨by omega, Net.pass_last hE E.m 0 (by omega) _ (fun h => by simp only at h; omega) h⟩⟩
      | succ k =>
        obtain ⟨ρ', h1, h2, h3⟩ := Net.rounds_inv hE (k + 1) (ρ + 1) _ (by omega) I1.next (by omega)
        exact ⟨ρ', by omega, h2, fun h => by obtain ⟨h4, h5⟩ := h3 h; exact ⟨by omega, h5⟩⟩
end
def iter (g : Nat → Nat) : Nat → Nat → Nat
  | 0, x => x
  | k + 1, x => iter g k (g x)
theorem iter_add (g : Nat → Nat) : ∀ (a b x : Nat), iter g (a + b) x = iter g b (iter g a x)
  | 0, b, x => by rw [Nat.zero_add]; rfl
  | a + 1, b, x => by rw [show a + 1 + b = (a + b) + 1 by omega]; exact iter_add g a b (g x)
theorem iter_succ (g : Nat → Nat) (k x : Nat) : iter g (k + 1) x = g (iter g k x) := iter_add g k 1 x
theorem iter_lt {g : Nat → Nat} {n : Nat} (hg : ∀ x, x < n → g x < n) : ∀ (k : Nat) {x : Nat}, x < n → iter g k x < n
  | 0, _, h => h
  | k + 1, _, h => iter_lt hg k (hg _ h)
theorem exists_rep : ∀ {n : Nat} (s : Nat → Nat), (∀ k, k ≤ n → s k < n) → ∃ a c, a < c ∧ c ≤ n ∧ s a = s c
  | 0, s, hs => by have := hs 0 (Nat.le_refl _); omega
  | n + 1, s, hs => by
    by_cases h : ∃ a, a ≤ n ∧ s a = s (n + 1)
    · obtain ⟨a, h1, h2⟩ := h
      exact ⟨a, n + 1, by omega, Nat.le_refl _, h2⟩
    · have hne : ∀ k, k ≤ n → s k ≠ s (n + 1) := fun k hk e => h ⟨k, hk, e⟩
      have hv := hs (n + 1) (Nat.le_refl _)
      obtain ⟨a, c, h1, h2, h3⟩ := exists_rep (n := n) (fun k => if s k > s (n + 1) then s k - 1 else s k) (fun k hk => by
        have h4 := hne k hk
        have h5 := hs k (by omega)
  
        split <;> omega)
      refine ⟨a, c, h1, by omega, ?_⟩
      have h4 := hne a (by omega)
      have h5 := hne c h2
      split at h3 <;> split at h3 <;> omega
theorem iter_cycle {n : Nat} {g : Nat → Nat} (hg : ∀ x, x < n → g x < n) {x : Nat} (hx : x < n) {K : Nat} (hK : n ≤ K + 1) : ∃ k, 0 < k ∧ k ≤ n ∧ iter g k (iter g K x) = iter g K x := by
  obtain ⟨a, c, hac, hcn, e⟩ := exists_rep (n := n) (fun k => iter g k x) (fun k _ => iter_lt hg k hx)
  refine ⟨c - a, by omega, by omega, ?_⟩
  have h1 : iter g (c - a) (iter g a x) = iter g a x := by rw [← iter_add, show a + (c - a) = c by omega]; exact e.symm
  rw [show K = a + (K - a) by omega, iter_add, ← iter_add, Nat.add_comm, iter_add, h1]
def sumTo (x : Nat → Int) : Nat → Int
  | 0 => 0
  | k + 1 => sumTo x k + x k
theorem sumTo_le {x y : Nat → Int} : ∀ {k : Nat}, (∀ j, j < k → x j ≤ y j) → sumTo x k ≤ sumTo y k
  | 0, _ => Int.le_refl _
  | k + 1, h => by
    have h1 := sumTo_le (k := k) fun j hj => h j (by omega)
    have h2 := h k (by omega)
    simp only [sumTo]; omega
theorem sumTo_lt {x y : Nat → Int} : ∀ {k j : Nat}, j < k → (∀ i, i < k → x i ≤ y i) → x j < y j → sumTo x k < sumTo y k
  | 0, _, hj, _, _ => by omega
  | k + 1, j, hj, h, hl => by
    simp only [sumTo]
    by_cases e : j = k
    · subst e
      have := sumTo_le (k := j) fun i hi => h i (by omega)
      omega
    · have := sumTo_lt (k := k) (j := j) (by omega) (fun i hi => h i (by omega)) hl
      have := h k (by omega)
      omega
theorem sumTo_tele (x : Nat → Int) : ∀ (k : Nat), sumTo (fun j => x j - x (j + 1)) k = x 0 - x k
  | 0 => by simp [sumTo]
  | k + 1 => by rw [sumTo, sumTo_tele x k]; omega
theorem exists_max (x : Nat → Nat) : ∀ (k : Nat), 0 < k → ∃ j, j < k ∧ ∀ i, i < k → x i ≤ x j
  | 0, h => by omega
  | 1, _ => ⟨0, by omega, fun i hi => by rw [show i = 0 by omega]; exact Nat.le_refl _⟩
  | k + 2, _ => by
    obtain ⟨j, h1, h2⟩ := exists_max x (k + 1) (by omega)
    by_cases h : x j ≤ x (k + 1)
    · refine ⟨k + 1, by omega, fun i hi => ?_⟩
      by_cases e : i = k + 1
      · rw [e]; exact Nat.le_refl _
      · exact Nat.le_trans (h2 i (by omega)) h
    · refine ⟨j, by omega, fun i hi => ?_⟩
      by_cases e : i = k + 1
      · rw [e]; omega
      · exact h2 i (by omega)
def Net.back (_ : Net) (b : Nat → Int) (d : Nat → Nat) (v : Nat) : Nat := if b v < 0 then d v else (b v).toNat
section
variable {E : Net} {s : Rz} {ρ : Nat} {d : Nat → Nat}
theorem Rz.Inv.walk_lv (I : s.Inv E ρ E.m) {v : Nat} : ∀ {k : Nat}, k < s.lv v → 0 < s.lv (iter (fun x => E.f (E.back s.b d x)) k v) ∧ s.lv v ≤ s.lv (iter (fun x => E.f (E.back s.b d x)) k v) + k
  | 0, h => ⟨h, by simp [iter]⟩
  | k + 1, h => by
    obtain ⟨h1, h2⟩ := I.walk_lv (k := k) (v := v) (by omega)
    rw [iter_succ]
    generalize iter (fun x => E.f (E.back s.b d x)) k v = u at h1 h2 ⊢
    have hb : 0 ≤ s.b u := by
      apply Classical.byContradiction
      intro hn
      have := (I.none_ u (by omega)).2.2
      omega
    obtain ⟨e, e1, _, _, _, _, e6⟩ := I.by_ u hb
    have hbk : E.back s.b d u = e := by unfold Net.back; rw [if_neg (by omega), e1]; rfl
    rw [hbk]
    omega
theorem Rz.Inv.circle (I : s.Inv E ρ E.m) (hE : E.OK) (hd : ∀ v, v < E.n → d v < E.m) {v : Nat} (hv : v < E.n) (hlv : s.lv v = ρ) (hρ : ρ = E.n + 1) {K : Nat} (hK : K = E.n + 1) :
    ∃ k, 0 < k ∧ k ≤ E.n ∧ iter (fun x => E.f (E.back s.b d x)) k (iter (fun x => E.f (E.back s.b d x)) K v) = iter (fun x => E.f (E.back s.b d x)) K v ∧
      ∀ j, 0 ≤ s.b (iter (fun x => E.f (E.back s.b d x)) j (iter (fun x => E.f (E.back s.b d x)) K v)) := by
  have hg : ∀ x, x < E.n → E.f (E.back s.b d x) < E.n := fun x hx => by
    refine hE.f _ ?_
    unfold Net.back
    split
    · exact hd x hx
    · rename_i h
      obtain ⟨e, e1, e2, _⟩ := I.by_ x (by omega)
      rw [e1]; exact e2
  have hpos : ∀ k, k ≤ E.n → 0 ≤ s.b (iter (fun x => E.f (E.back s.b d x)) k v) := fun k hk => by
    apply Classical.byContradiction
    intro hn
    have h1 := (I.none_ _ (show s.b (iter (fun x => E.f (E.back s.b d x)) k v) < 0 by omega)).2.2
    have := (I.walk_lv (d := d) (v := v) (k := k) (by omega)).1
    omega
  obtain ⟨k, k1, k2, k3⟩ := iter_cycle hg hv (K := K) (by omega)
  refine ⟨k, k1, k2, k3, fun j => ?_⟩
  obtain ⟨a, c, hac, hcn, e⟩ := exists_rep (n := E.n) (fun k => iter (fun x => E.f (E.back s.b d x)) k v) (fun k _ => iter_lt hg k hv)
  -- everything from a on repeats within a .. c - 1
  have hall : ∀ i, ∃ k, k < c ∧ iter (fun x => E.f (E.back s.b d x)) i v = iter (fun x => E.f (E.back s.b d x)) k v := by
    intro i
    induction i with
    | zero => exact ⟨0, by omega, rfl⟩
    | succ i ih =>
      obtain ⟨k, h1, h2⟩ := ih
      by_cases hk : k + 1 < c
      · exact ⟨k + 1, hk, by rw [iter_succ, iter_succ, h2]⟩
      · refine ⟨a, hac, ?_⟩
        have h3 : iter (fun x => E.f (E.back s.b d x)) (k + 1) v = E.f (E.back s.b d (iter (fun x => E.f (E.back s.b d x)) k v)) := iter_succ _ _ _
        rw [iter_succ, h2, ← h3, show k + 1 = c by omega]; exact e.symm
  rw [← iter_add]
  obtain ⟨i, h1, h2⟩ := hall (K + j)
  rw [h2]
  exact hpos i (by omega)
theorem Rz.Inv.weighs (I : s.Inv E ρ E.m) {y k : Nat} (hk : 0 < k) (hy : iter (fun x => E.f (E.back s.b d x)) k y = y) (hb : ∀ j, 0 ≤ s.b (iter (fun x => E.f (E.back s.b d x)) j y)) :
    0 < sumTo (fun j => E.w (E.back s.b d (iter (fun x => E.f (E.back s.b d x)) j y))) k := by
  have key : ∀ j, s.t (iter (fun x => E.f (E.back s.b d x)) j y) - s.t (iter (fun x => E.f (E.back s.b d x)) (j + 1) y) ≤ E.w (E.back s.b d (iter (fun x => E.f (E.back s.b d x)) j y)) ∧
      ((s.lst (iter (fun x => E.f (E.back s.b d x)) j y) < s.lst (iter (fun x => E.f (E.back s.b d x)) (j + 1) y) ∨ iter (fun x => E.f (E.back s.b d x)) (j + 1) y = iter (fun x => E.f (E.back s.b d x)) j y) →
        s.t (iter (fun x => E.f (E.back s.b d x)) j y) - s.t (iter (fun x => E.f (E.back s.b d x)) (j + 1) y) < E.w (E.back s.b d (iter (fun x => E.f (E.back s.b d x)) j y))) := by
    intro j
    rw [iter_succ]
    have h0 := hb j
    generalize iter (fun x => E.f (E.back s.b d x)) j y = u at h0 ⊢
    obtain ⟨e, e1, _, _, e4, e5, _⟩ := I.by_ u h0
    have hbk : E.back s.b d u = e := by unfold Net.back; rw [if_neg (by omega), e1]; rfl
    rw [hbk]
    exact ⟨by omega, fun h => by have := e5 h; omega⟩
  have htele := sumTo_tele (fun j => s.t (iter (fun x => E.f (E.back s.b d x)) j y)) k
  rw [hy] at htele
  have hz : sumTo (fun j => s.t (iter (fun x => E.f (E.back s.b d x)) j y) - s.t (iter (fun x => E.f (E.back s.b d x)) (j + 1) y)) k = 0 := by rw [htele]; simp [iter]
  rw [← hz]
  obtain ⟨j, hj, hmax⟩ := exists_max (fun j => s.lst (iter (fun x => E.f (E.back s.b d x)) j y)) k hk
  -- the one ahead of the latest
  have hcase : ∃ i, i < k ∧ iter (fun x => E.f (E.back s.b d x)) (i + 1) y = iter (fun x => E.f (E.back s.b d x)) j y := by
    cases j with
    | zero => exact ⟨k - 1, by omega, by rw [show k - 1 + 1 = k by omega, hy]; rfl⟩
    | succ j => exact ⟨j, by omega, rfl⟩
  obtain ⟨i, hi, he⟩ := hcase
  refine sumTo_lt hi (fun i _ => (key i).1) ((key i).2 ?_)
  have h1 := hmax i hi
  rw [he]
  by_cases h2 : s.lst (iter (fun x => E.f (E.back s.b d x)) i y) = s.lst (iter (fun x => E.f (E.back s.b d x)) j y)
  · exact .inr (I.inj_ _ _ (hb i) (hb j) h2).symm
  · exact .inl (by omega)
end
end Go.Lite
namespace Go.Proofs.Ytipbcpobnciccaa
open Go.Lite
set_option maxRecDepth 100000
theorem len_allL (n : Int) (l : List (List D)) : (allL n l).length = l.length + n.toNat := by simp [allL, len_extraF]
theorem allL_get1 {n : Int} {l : List (List D)} {i : Nat} (h : i < l.length) : (allL n l).getD i [] = l.getD i [] := by
  simp only [allL, List.getD_eq_getElem?_getD]
  rw [List.getElem?_append_left h]
theorem allL_get2 {n : Int} {l : List (List D)} {i : Nat} (h : i < n.toNat) : (allL n l).getD (l.length + i) [] = [.i 0, .i (i : Int), .i 0] := by
  have := extraF_get (i := 0) (k := n.toNat) (j := i) h
  simp only [List.getD_eq_getElem?_getD, Nat.zero_add] at this
  simp only [allL, List.getD_eq_getElem?_getD]
  rw [List.getElem?_append_right (by omega), Nat.add_sub_cancel_left]
  exact this
theorem net_of {n : Int} {l : List (List D)} (h : netP n l) : 1 ≤ n ∧ n ≤ 500 ∧ l.length ≤ 5000 ∧ ∀ i, i < l.length → (0 ≤ lkF l i ∧ lkF l i < n) ∧ (0 ≤ lkT l i ∧ lkT l i < n) ∧ (-1000000 ≤ lkW l i ∧ lkW l i ≤ 1000000) := by
  simp only [netP, netOk, Bool.and_eq_true, Lite.within_iff, decide_eq_true_eq, allFrom_iff, linkOk, linkP] at h
  obtain ⟨⟨⟨h1, h2⟩, h3⟩, h4⟩ := h
  refine ⟨h1, h2, h3, fun i hi => ?_⟩
  have := h4 i (Nat.zero_le _) (by omega)
  omega
theorem good_all {n : Int} {l : List (List D)} (h : netP n l) : goodL n (allL n l) := by
  obtain ⟨h1, h2, h3, h4⟩ := net_of h
  refine ⟨h1, h2, by rw [len_allL]; omega, fun i hi => ?_⟩
  rw [len_allL] at hi
  by_cases hl : i < l.length
  · have := h4 i hl
    unfold lkF lkT lkW at this ⊢
    rw [allL_get1 hl]
    exact this
  · obtain ⟨j, rfl⟩ : ∃ j, i = l.length + j := ⟨i - l.length, by omega⟩
    unfold lkF lkT lkW
    rw [allL_get2 (by omega)]
    simp only [ix, List.getD_cons_zero, List.getD_cons_succ, D.I]
    omega
theorem bnd_zeros (n : Int) {M : Int} (h : 0 ≤ M) : bndR (zeros n) M := fun j => by
  unfold zeros
  by_cases hj : j < n.toNat
  · rw [rg_rep hj]; omega
  · rw [rg_ge (by simp only [List.length_replicate]; omega)]; omega
theorem len_zeros (n : Int) : (zeros n).length = n.toNat := by simp [zeros]
end Go.Proofs.Ytipbcpobnciccaa
namespace Go.Proofs.Ytipbcpobnciccaa
open Go.Lite
noncomputable section
def G16 (ds : List D) : T (List D) := match ds with
  | [] => .leaf [.b true]
  | _ => .fail
end
end Go.Proofs.Ytipbcpobnciccaa
namespace Go.Proofs.Ytipbcpobnciccaa
open Go.Lite
set_option maxRecDepth 100000
def netN (n : Int) (l : List (List D)) : Net := ⟨n.toNat, l.length, fun i => (lkF l i).toNat, fun i => (lkT l i).toNat, fun i => lkW l i⟩
theorem netN_ok {n : Int} {l : List (List D)} (h : goodL n l) : (netN n l).OK :=
  ⟨fun i hi => by have := (h.2.2.2 i hi).1; show (lkF l i).toNat < n.toNat; omega, fun i hi => by have := (h.2.2.2 i hi).2.1; show (lkT l i).toNat < n.toNat; omega⟩
structure SimR (n : Int) (s : RSt) (x : Rz) : Prop where
  l1 : s.1.length = n.toNat
  l2 : s.2.1.length = n.toNat
  t : ∀ j, x.t j = rg s.1 j
  b : ∀ j, j < n.toNat → x.b j = rg s.2.1 j
  r : x.r = s.2.2
theorem sim_step {n : Int} {l : List (List D)} (hl : goodL n l) {i ρ : Nat} (hi : i < l.length) {s : RSt} {x : Rz} (h : SimR n s x) : SimR n (stepR l i s) ((netN n l).step ρ i x) := by
  obtain ⟨h1, h2, h3, h4, h5⟩ := h
  obtain ⟨f1, f2, f3⟩ := hl.2.2.2 i hi
  unfold stepR Net.step netN
  simp only [h3]
  by_cases hc : rg s.1 (lkF l i).toNat + lkW l i > rg s.1 (lkT l i).toNat
  · rw [if_pos hc, if_pos hc]
    refine ⟨by simp only [len_rs]; exact h1, by simp only [len_rs]; exact h2, fun j => ?_, fun j hj => ?_, ?_⟩
    · simp only [upd]
      rw [rg_rs (by omega), h3]
    · simp only [upd]
      rw [rg_rs (by omega), h4 j hj]
    · simp only
      omega
  · rw [if_neg hc, if_neg hc]
    exact ⟨h1, h2, h3, h4, h5⟩
theorem sim_pass {n : Int} {l : List (List D)} (hl : goodL n l) {ρ : Nat} : ∀ (k i : Nat), i + k ≤ l.length → ∀ {s : RSt} {x : Rz}, SimR n s x → SimR n (passR l i k s) ((netN n l).pass ρ i k x)
  | 0, _, _, _, _, h => h
  | k + 1, i, hk, _, _, h => sim_pass hl k (i + 1) (by omega) (sim_step hl (by omega) h)
theorem sim_rounds {n : Int} {l : List (List D)} (hl : goodL n l) : ∀ (k ρ : Nat) {s : RSt} {x : Rz}, SimR n s x → SimR n (roundsR l k s) ((netN n l).rounds ρ k x)
  | 0, _, _, _, h => h
  | k + 1, ρ, s, x, h => by
    have h1 := sim_pass hl (ρ := ρ) l.length 0 (by omega) (s := (s.1, s.2.1, -1)) (x := { x with r := -1 }) ⟨h.l1, h.l2, h.t, h.b, rfl⟩
    simp only [roundsR, Net.rounds]
    have e : ((netN n l).pass ρ 0 (netN n l).m { x with r := -1 }).r = (passR l 0 l.length (s.1, s.2.1, -1)).2.2 := h1.r
    rw [e]
    split
    · exact h1
    · exact sim_rounds hl k (ρ + 1) h1
theorem sim_push {n : Int} {l t : List (List D)} (hl : goodL n l) (ht : t.length = n.toNat) : SimR n (pushR n l t) ((netN n l).rounds 1 (n.toNat + 1) (Rz.start (rg t))) :=
  sim_rounds hl _ _ ⟨ht, by simp, fun _ => rfl, fun j hj => (rg_rep hj).symm, rfl⟩
theorem kept_push {n : Int} {l t : List (List D)} (hl : goodL n l) (ht : t.length = n.toNat) (hr : (pushR n l t).2.2 < 0) : (netN n l).kept (rg (pushR n l t).1) := by
  have h := sim_push hl ht
  have h1 := Net.rounds_kept (E := netN n l) (n.toNat + 1) 1 (Rz.start (rg t)) (by omega) (by rw [h.r]; exact hr)
  intro i hi
  have := h1 i hi
  rw [h.t, h.t] at this
  exact this
theorem push_ub {n : Int} {l t : List (List D)} (hl : goodL n l) (ht : t.length = n.toNat) {p : Nat → Int} (hp : (netN n l).kept p) (h0 : ∀ j, rg t j ≤ p j) (j : Nat) : rg (pushR n l t).1 j ≤ p j := by
  have h := sim_push hl ht
  rw [← h.t]
  exact Net.rounds_ub hp _ _ _ h0 j
theorem push_le {n : Int} {l t : List (List D)} (hl : goodL n l) (ht : t.length = n.toNat) (j : Nat) : rg t j ≤ rg (pushR n l t).1 j := by
  have h := sim_push hl ht
  rw [← h.t]
  exact Net.rounds_le (E := netN n l) (n.toNat + 1) 1 (Rz.start (rg t)) j
theorem rg_zeros (n : Int) (j : Nat) : rg (zeros n) j = 0 := by
  unfold zeros
  by_cases hj : j < n.toNat
  · exact rg_rep hj
  · exact rg_ge (by simp only [List.length_replicate]; omega)
theorem kept_first {n : Int} {l : List (List D)} {p : Nat → Int} (hp : (netN n (allL n l)).kept p) {j : Nat} (hj : j < n.toNat) : p 0 ≤ p j := by
  have := hp (l.length + j) (show l.length + j < (allL n l).length by rw [len_allL]; omega)
  simp only [netN] at this
  unfold lkF lkT lkW at this
  rw [allL_get2 hj] at this
  simp only [ix, List.getD_cons_zero, List.getD_cons_succ, D.I, Int.toNat_natCast, Int.toNat_zero] at this
  omega
theorem push_zero {n : Int} {l : List (List D)} (hp : netP n l) (hr : (pushR n (allL n l) (zeros n)).2.2 < 0) : rg (pushR n (allL n l) (zeros n)).1 0 = 0 := by
  have hl := good_all hp
  have hn := (net_of hp).1
  have hk := kept_push hl (len_zeros n) hr
  have h1 := push_ub hl (len_zeros n) (p := fun j => if j < n.toNat then rg (pushR n (allL n l) (zeros n)).1 j - rg (pushR n (allL n l) (zeros n)).1 0 else rg (pushR n (allL n l) (zeros n)).1 j) (fun i hi => by
      have h2 := hk i hi
      have h3 := (netN_ok hl).f i hi
      have h4 := (netN_ok hl).t i hi
      have h3' : (netN n (allL n l)).f i < n.toNat := h3
      have h4' : (netN n (allL n l)).t i < n.toNat := h4
      simp only
      rw [if_pos h3', if_pos h4']
      omega) (fun j => by
      rw [rg_zeros]
      split
      · rename_i hj
        have := kept_first hk hj
        omega
      · have := push_le hl (len_zeros n) j
        rw [rg_zeros] at this
        exact this) 0
  rw [if_pos (by omega)] at h1
  have h2 := push_le hl (len_zeros n) 0
  rw [rg_zeros] at h2
  omega
end Go.Proofs.Ytipbcpobnciccaa
namespace Go.Lite
theorem Net.rounds_done {E : Net} (hE : E.OK) (hm : 0 < E.m) {p : Nat → Int} (hp : E.kept p) (t : Nat → Int) : (E.rounds 1 (E.n + 1) (Rz.start t)).r < 0 := by
  apply Classical.byContradiction
  intro hr
  obtain ⟨ρ', -, I, hI⟩ := Net.rounds_inv hE (E.n + 1) 1 (Rz.start t) (by omega) (Rz.start_inv _) (by omega)
  obtain ⟨hρ, v, hv1, hv2, hv3⟩ := hI (by omega)
  clear hI
  generalize E.rounds 1 (E.n + 1) (Rz.start t) = s at *
  obtain ⟨k, k0, k1, k2, k3⟩ := I.circle (d := fun _ => 0) hE (fun _ _ => hm) hv3 hv2 (by omega) (K := E.n + 1) rfl
  have hW := I.weighs k0 k2 k3
  generalize iter (fun x => E.f (E.back s.b (fun _ => 0) x)) (E.n + 1) v = y at *
  have hle : sumTo (fun j => E.w (E.back s.b (fun _ => 0) (iter (fun x => E.f (E.back s.b (fun _ => 0) x)) j y))) k ≤ sumTo (fun j => p (iter (fun x => E.f (E.back s.b (fun _ => 0) x)) j y) - p (iter (fun x => E.f (E.back s.b (fun _ => 0) x)) (j + 1) y)) k := by
    refine sumTo_le fun j _ => ?_
    rw [iter_succ]
    have h0 := k3 j
    generalize iter (fun x => E.f (E.back s.b (fun _ => 0) x)) j y = u at h0 ⊢
    obtain ⟨e, e1, e2, e3, -⟩ := I.by_ u h0
    have hb : E.back s.b (fun _ => 0) u = e := by unfold Net.back; rw [if_neg (by omega), e1]; rfl
    have := hp e e2
    simp only [hb]
    rw [e3] at this
    omega
  rw [sumTo_tele (fun j => p (iter (fun x => E.f (E.back s.b (fun _ => 0) x)) j y)) k, k2] at hle
  simp only [iter] at hle
  omega
end Go.Lite
namespace Go.Proofs.Ytipbcpobnciccaa
open Go.Lite
theorem push_done {n : Int} {l t : List (List D)} (hl : goodL n l) (h0 : 0 < l.length) (ht : t.length = n.toNat) {p : Nat → Int} (hp : (netN n l).kept p) : (pushR n l t).2.2 < 0 := by
  rw [← (sim_push hl ht).r]
  exact Net.rounds_done (E := netN n l) (netN_ok hl) h0 hp (rg t)
theorem push_least {n : Int} {l : List (List D)} (hp : netP n l) {p : Nat → Int} (hk : (netN n (allL n l)).kept p) (h0 : ∀ j, 0 ≤ p j) : (pushR n (allL n l) (zeros n)).2.2 < 0 ∧ ∀ j, rg (pushR n (allL n l) (zeros n)).1 j ≤ p j := by
  have hl := good_all hp
  have hla := len_allL n l
  have hn := (net_of hp).1
  exact ⟨push_done hl (by omega) (len_zeros n) hk, fun j => push_ub hl (len_zeros n) hk (fun j => by rw [rg_zeros]; exact h0 j) j⟩
end Go.Proofs.Ytipbcpobnciccaa
namespace Go.Proofs.Ytipbcpobnciccaa
open Go.Lite
set_option maxRecDepth 100000
def mkF2 (s : Sig) (G : List D → T (List D)) (s' : Sig) (G' : List D → T (List D)) : List SV → T (SV × SHeap) := fun args => match fitsVs s.args args with
  | some ds => (G ds).map (headR s.res)
  | none => match fitsVs s'.args args with
    | some ds => (G' ds).map (headR s'.res)
    | none => .fail
theorem fn_two {C : Cfg} {n : Nat} {f : FuncId} {s s' : Sig} {G G' : List D → T (List D)} (h : FnOK C n f (mkF s G)) (h' : FnOK C n f (mkF s' G')) : FnOK C n f (mkF2 s G s' G') := by
  intro args v hb hv avs ha
  unfold mkF2 at hv
  split at hv
  · rename_i ds hds
    exact h args v hb (by unfold mkF; rw [hds]; exact hv) avs ha
  · split at hv
    · rename_i ds hds
      exact h' args v hb (by unfold mkF; rw [hds]; exact hv) avs ha
    · cases hv
end Go.Proofs.Ytipbcpobnciccaa
namespace Go.Proofs.Ytipbcpobnciccaa
open Go.Lite
def s16 : Sig := ⟨[], [(.k .bool, [])]⟩
def s86 : Sig := ⟨[.agg [.k (.int .i64), .k (.int .i64), .k (.int .i64)]], [(.k .bool, [])]⟩
def s88 : Sig := ⟨[.k (.ro [.int .i64, .int .i64, .int .i64]), .fn 86 [] []], [(.k (.int .i64), [])]⟩
def l88_2 : LSig := mkLS [0, 1, 7, 8] [(19, [(0, .k (.ro [.int .i64, .int .i64, .int .i64])), (1, .fn 86 [] []), (7, .k (.int .i64)), (8, .k (.int .i64))], [])] [(.ret, [4], [(19, [(4, .k (.int .i64))], [])]), (.exit 0, [], [(19, [], [])])]
def s85 : Sig := ⟨[.k (.ro [.int .i64, .int .i64, .int .i64]), .fn 86 [] []], [(.k .bool, [])]⟩
def s71 : Sig := ⟨[.agg [.k (.int .i64), .k (.int .i64), .k (.int .i64), .k (.int .i64), .k .bool, .k (.int .i64), .k (.int .i64), .k (.ro [.int .i64, .int .i64, .int .i64])], .nilp], [(.k .bool, [])]⟩
def s1071 : Sig := ⟨[.agg [.k (.int .i64), .k (.int .i64), .k (.int .i64), .k (.int .i64), .k .bool, .k (.int .i64), .k (.int .i64), .k (.ro [.int .i64, .int .i64, .int .i64])], .eptr [.k (.int .i64), .k (.int .i64), .k (.int .i64), .k (.int .i64), .k .bool, .k (.int .i64), .k (.int .i64), .k (.ro [.int .i64, .int .i64, .int .i64])]], [(.k .bool, [])]⟩
def s41 : Sig := ⟨[.agg [.k (.int .i64), .k (.int .i64), .k (.ro [.int .i64, .int .i64, .int .i64, .int .i64, .bool, .int .i64, .int .i64, .ro [.int .i64, .int .i64, .int .i64]])]], [(.k (.int .i64), [])]⟩
def l41_5 : LSig := mkLS [1, 3, 24, 25, 26] [(40, [(1, .ptr 0 3 0 0), (3, .nilp), (24, .k (.ro [.int .i64, .int .i64, .int .i64, .int .i64, .bool, .int .i64, .int .i64, .ro [.int .i64, .int .i64, .int .i64]])), (25, .k (.int .i64)), (26, .k (.int .i64))], [.box [.k (.int .i64), .k (.int .i64), .k (.ro [.int .i64, .int .i64, .int .i64, .int .i64, .bool, .int .i64, .int .i64, .ro [.int .i64, .int .i64, .int .i64]])]]), (40, [(1, .ptr 0 3 0 0), (3, .eptr [.k (.int .i64), .k (.int .i64), .k (.int .i64), .k (.int .i64), .k .bool, .k (.int .i64), .k (.int .i64), .k (.ro [.int .i64, .int .i64, .int .i64])]), (24, .k (.ro [.int .i64, .int .i64, .int .i64, .int .i64, .bool, .int .i64, .int .i64, .ro [.int .i64, .int .i64, .int .i64]])), (25, .k (.int .i64)), (26, .k (.int .i64))], [.box [.k (.int .i64), .k (.int .i64), .k (.ro [.int .i64, .int .i64, .int .i64, .int .i64, .bool, .int .i64, .int .i64, .ro [.int .i64, .int .i64, .int .i64]])]])] [(.ret, [2], [(40, [(2, .k (.int .i64))], [])]), (.exit 0, [], [(40, [], [])])]
def s73 : Sig := ⟨[.agg [.k (.int .i64), .k (.int .i64), .k (.ro [.int .i64, .int .i64, .int .i64, .int .i64, .bool, .int .i64, .int .i64, .ro [.int .i64, .int .i64, .int .i64]])], .k (.int .i64)], [(.k (.int .i64), [])]⟩
end Go.Proofs.Ytipbcpobnciccaa
namespace Go.Proofs.Ytipbcpobnciccaa
open Go.Lite
noncomputable section
def hourB (l : List (List D)) (k : Nat) : Bool := decide ((0 ≤ ix (l.getD k []) 0 ∧ ix (l.getD k []) 0 ≤ ix (l.getD k []) 1) ∧ ix (l.getD k []) 1 ≤ 200000 ∧ 0 ≤ ix (l.getD k []) 2 ∧ ix (l.getD k []) 2 ≤ 200000)
def hours (l : List (List D)) : Bool := allFrom (hourB l) 0 l.length
def wayC (c : List D) : Bool := decide ((1 ≤ ix c 0 ∧ ix c 0 ≤ 1000) ∧ (0 ≤ ix c 1 ∧ ix c 1 ≤ 600) ∧ (0 ≤ ix c 2 ∧ ix c 2 ≤ 600) ∧ (1 ≤ ix c 3 ∧ ix c 3 ≤ 60) ∧ (0 ≤ ix c 5 ∧ ix c 5 ≤ ix c 6) ∧ ix c 6 ≤ 1000 ∧ (lx c 7).length ≤ 10)
def grpC (c : List D) (first : Bool) (g : Int) : Bool := if bx c 4 then !first else (decide (ix c 5 = 0 ∧ ix c 6 = 0) && (first || decide (ix c 3 = g)))
def wayB (c : List D) (first : Bool) (g : Int) : Bool := wayC c && (grpC c first g && hours (lx c 7))
def mk8 (a b c d e f g h : D) : List D := [.i a.I, .i b.I, .i c.I, .i d.I, .b e.B, .i f.I, .i g.I, .l h.L]
def wayL (w : List (List D)) (i : Nat) : Bool := wayB (w.getD i []) (i == 0) (ix (w.getD (i - 1) []) 3)
def planH (cars first : Int) (w : List (List D)) : Bool := decide ((1 ≤ cars ∧ cars ≤ 200) ∧ (1 ≤ w.length ∧ w.length ≤ 60) ∧ 0 ≤ first ∧ first ≤ 100000)
def planB (cars first : Int) (w : List (List D)) : Bool := planH cars first w && allFrom (wayL w) 0 w.length
def timeL (l : List (List D)) (i : Nat) : Bool := decide (0 ≤ rg l i ∧ rg l i ≤ 1000000000)
def timedB (l : List (List D)) (n : Int) : Bool := decide ((l.length : Int) = n) && allFrom (timeL l) 0 l.length
def G86 (ds : List D) : T (List D) := match ds with
  | [a, b, c] => .leaf [.b (!decide ((0 ≤ a.I ∧ a.I ≤ b.I) ∧ b.I ≤ 200000 ∧ 0 ≤ c.I ∧ c.I ≤ 200000))]
  | _ => .fail
def G88 (ds : List D) : T (List D) := match ds with
  | [l] => .need (yes (l.L.length < big)) (.leaf [.i (firstFrom (fun j => !hourB l.L j) 0 l.L.length)])
  | _ => .fail
def G88_2 (ds : List D) : T (Ex × List D) := match ds with
  | [l, m, i] => .need (yes (l.L.length < big ∧ m.I = l.L.length ∧ 0 ≤ i.I ∧ i.I ≤ l.L.length))
      (.ite (decide (firstFrom (fun j => !hourB l.L j) i.I.toNat (l.L.length - i.I.toNat) ≥ 0)) (.leaf (.ret, [.i (firstFrom (fun j => !hourB l.L j) i.I.toNat (l.L.length - i.I.toNat))])) (.leaf (.exit 0, [])))
  | _ => .fail
def G85 (ds : List D) : T (List D) := match ds with
  | [l] => .need (yes (l.L.length < big)) (.leaf [.b (!hours l.L)])
  | _ => .fail
def G71 (ds : List D) : T (List D) := match ds with
  | [a, b, c, d, e, f, g, h] => .leaf [.b (wayB (mk8 a b c d e f g h) true 0)]
  | _ => .fail
def G1071 (ds : List D) : T (List D) := match ds with
  | [a, b, c, d, e, f, g, h, _, _, _, p, _, _, _, _] => .leaf [.b (wayB (mk8 a b c d e f g h) false p.I)]
  | _ => .fail
def G41 (ds : List D) : T (List D) := match ds with
  | [c, f, w] => .leaf [.i (if planB c.I f.I w.L then 0 else 2)]
  | _ => .fail
def G41_5 (ds : List D) : T (Ex × List D) := match ds with
  | [j, w, m, i, _, _, w'] => .need (yes (j.I = 0 ∧ w'.L = w.L ∧ w.L.length ≤ 60 ∧ m.I = w.L.length ∧ i.I = 0)) (.ite (allFrom (wayL w.L) 0 w.L.length) (.leaf (.exit 0, [])) (.leaf (.ret, [.i 2])))
  | [j, _, _, _, g, _, _, _, _, w, m, i, _, _, w'] => .need (yes (j.I = 1 ∧ w'.L = w.L ∧ w.L.length ≤ 60 ∧ m.I = w.L.length ∧ 1 ≤ i.I ∧ i.I ≤ w.L.length ∧ g.I = ix (w.L.getD (i.I.toNat - 1) []) 3))
      (.ite (allFrom (wayL w.L) i.I.toNat (w.L.length - i.I.toNat)) (.leaf (.exit 0, [])) (.leaf (.ret, [.i 2])))
  | _ => .fail
def spanF (cars : Int) (c : List D) : Int := (cars - 1) * ix c 3
def busyF (cars : Int) (c : List D) : Int := spanF cars c + ix c 0 + ix c 2
def G73 (ds : List D) : T (List D) := match ds with
  | [c, f, w, j] => .need (yes (planB c.I f.I w.L = true ∧ 0 ≤ j.I ∧ j.I < w.L.length)) (.leaf [.i (busyF c.I (w.L.getD j.I.toNat []))])
  | _ => .fail
end
end Go.Proofs.Ytipbcpobnciccaa
namespace Go.Proofs.Ytipbcpobnciccaa
open Go.Lite
noncomputable section
def nextB (c : Int) (w du : List (List D)) (j : Nat) : Bool :=
  if j + 1 < w.length ∧ bx (w.getD (j + 1) []) 4 = true then decide (rg du j + ix (w.getD j []) 0 + spanF c (w.getD j []) + ix (w.getD (j + 1) []) 5 ≤ rg du (j + 1) ∧ rg du (j + 1) ≤ rg du j + ix (w.getD j []) 0 + spanF c (w.getD j []) + ix (w.getD (j + 1) []) 6)
  else decide (rg du (j + 1) = rg du j + ix (w.getD j []) 0)
def nextR (c : Int) (w du : List (List D)) (j : Nat) : Bool := j == 0 || nextB c w du (j - 1)
def choB (h : List (List D)) (cl op ch : Int) : Bool :=
  if h.length = 0 then decide (ch = -1) else decide ((0 ≤ ch ∧ ch ≤ (h.length : Int) - 1) ∧ ix (h.getD ch.toNat []) 0 ≤ cl ∧ op ≤ ix (h.getD ch.toNat []) 1 ∧ op - cl ≤ ix (h.getD ch.toNat []) 2)
def restB (c : Int) (w du cl op ch : List (List D)) (j : Nat) : Bool := decide (rg cl j ≤ rg du j - ix (w.getD j []) 1 ∧ rg du j + busyF c (w.getD j []) ≤ rg op j) && choB (lx (w.getD j []) 7) (rg cl j) (rg op j) (rg ch j)
def fitH (f : Int) (du cl op ch : List (List D)) (r : Nat) : Bool := timedB du (r + 1) && (timedB cl r && (timedB op r && decide (ch.length = r ∧ f ≤ rg du 0)))
def fitsR (c f : Int) (w du cl op ch : List (List D)) : Bool := fitH f du cl op ch w.length && (allFrom (nextR c w du) 0 (w.length + 1) && allFrom (restB c w du cl op ch) 0 w.length)
end
end Go.Proofs.Ytipbcpobnciccaa
namespace Go.Proofs.Ytipbcpobnciccaa
open Go.Lite
noncomputable def sp86 : SpL := [(48, mkF s48 G48)]
noncomputable def lp86 : LpL := []
noncomputable def sw86 : SwL := []
noncomputable def tab86 : Tab := mkTab sp86 lp86 sw86
noncomputable def sp88 : SpL := [(86, mkF s86 G86)]
noncomputable def lp88 : LpL := [(2, mkL l88_2 G88_2)]
noncomputable def sw88 : SwL := []
noncomputable def tab88 : Tab := mkTab sp88 lp88 sw88
noncomputable def sp85 : SpL := [(88, mkF s88 G88), (86, mkF s86 G86)]
noncomputable def lp85 : LpL := []
noncomputable def sw85 : SwL := []
noncomputable def tab85 : Tab := mkTab sp85 lp85 sw85
noncomputable def sp71 : SpL := [(48, mkF s48 G48), (85, mkF s85 G85)]
noncomputable def lp71 : LpL := []
noncomputable def sw71 : SwL := []
noncomputable def tab71 : Tab := mkTab sp71 lp71 sw71
noncomputable def sp1071 : SpL := [(48, mkF s48 G48), (85, mkF s85 G85)]
noncomputable def lp1071 : LpL := []
noncomputable def sw1071 : SwL := []
noncomputable def tab1071 : Tab := mkTab sp1071 lp1071 sw1071
noncomputable def sp41 : SpL := [(48, mkF s48 G48), (71, mkF2 s71 G71 s1071 G1071)]
noncomputable def lp41 : LpL := [(5, mkL l41_5 G41_5)]
noncomputable def sw41 : SwL := []
noncomputable def tab41 : Tab := mkTab sp41 lp41 sw41
noncomputable def sp73 : SpL := []
noncomputable def lp73 : LpL := []
noncomputable def sw73 : SwL := []
noncomputable def tab73 : Tab := mkTab sp73 lp73 sw73
end Go.Proofs.Ytipbcpobnciccaa
namespace Go.Proofs.Ytipbcpobnciccaa
open Go.Lite
set_option linter.unusedVariables false
set_option maxRecDepth 100000
theorem t86 (a b c : D) : fnT C tab86 86 s86 [a, b, c] =
  T.ite (decide (a.I < (0 : Int))) (T.leaf [D.b true]) (T.ite (decide (a.I > b.I)) (T.leaf [D.b true]) (T.ite (decide (b.I > (200000 : Int))) (T.leaf [D.b true]) (T.leaf [D.b !within c.I (0 : Int) (200000 : Int)]))) := by kernel_rfl
theorem t88 (a : D) : fnT C tab88 88 s88 [a] =
  T.need (yes (a.L.length < big ∧ (a.L.length : Int) = (a.L.length : Int) ∧ (0 : Int) ≤ (0 : Int) ∧ (0 : Int) ≤ (a.L.length : Int))) (T.ite (decide (firstFrom (fun j => !hourB a.L j) (Int.toNat (0 : Int)) (a.L.length - Int.toNat (0 : Int)) ≥ (0 : Int))) (T.leaf [D.i (firstFrom (fun j => !hourB a.L j) (Int.toNat (0 : Int)) (a.L.length - Int.toNat (0 : Int)))]) (T.leaf [D.i (-1 : Int)])) := by kernel_rfl
theorem t88_2 (a b c : D) : roundT C tab88 88 (loopOf C.P 88 2) l88_2 [a, b, c] =
  T.ite (decide (c.I < b.I)) (T.need (decide ((0 : Int) ≤ c.I ∧ c.I < (a.L.length : Int))) (T.ite (!decide (((0 : Int) ≤ D.I (List.getD (List.getD a.L c.I.toNat []) 0 default) ∧ D.I (List.getD (List.getD a.L c.I.toNat []) 0 default) ≤ D.I (List.getD (List.getD a.L c.I.toNat []) (0 + 1) default)) ∧ D.I (List.getD (List.getD a.L c.I.toNat []) (0 + 1) default) ≤ (200000 : Int) ∧ (0 : Int) ≤ D.I (List.getD (List.getD a.L c.I.toNat []) (0 + 1 + 1) default) ∧ D.I (List.getD (List.getD a.L c.I.toNat []) (0 + 1 + 1) default) ≤ (200000 : Int))) (T.leaf (Rd.out Ex.ret [D.i c.I])) (T.leaf (Rd.again [D.l a.L, D.i b.I, D.i (IntKind.wrap IntKind.i64 (c.I + (1 : Int)))])))) (T.leaf (Rd.out (Ex.exit 0) [])) := by kernel_rfl
theorem t85 (a : D) : fnT C tab85 85 s85 [a] =
  T.need (yes (a.L.length < big)) (T.leaf [D.b (decide (firstFrom (fun j => !hourB a.L j) 0 a.L.length ≥ (0 : Int)))]) := by kernel_rfl
theorem t71 (a b c d e f g h : D) : fnT C tab71 71 s71 [a, b, c, d, e, f, g, h] =
  T.ite (!within a.I (1 : Int) (1000 : Int)) (T.leaf [D.b false]) (T.ite (!within b.I (0 : Int) (600 : Int)) (T.leaf [D.b false]) (T.ite (!within c.I (0 : Int) (600 : Int)) (T.leaf [D.b false]) (T.ite (!within d.I (1 : Int) (60 : Int)) (T.leaf [D.b false]) (T.ite (!within f.I (0 : Int) (1000 : Int)) (T.leaf [D.b false]) (T.ite (!within g.I f.I (1000 : Int)) (T.leaf [D.b false]) (T.ite (decide ((h.L.length : Int) > (10 : Int))) (T.leaf [D.b false]) (T.ite true (T.ite e.B (T.leaf [D.b false]) (T.ite (!e.B) (T.ite (f.I != (0 : Int)) (T.leaf [D.b false]) (T.ite (g.I != (0 : Int)) (T.leaf [D.b false]) (T.ite false T.fail (T.need (yes (h.L.length < big)) (T.leaf [D.b !!hours h.L]))))) (T.need (yes (h.L.length < big)) (T.leaf [D.b !!hours h.L])))) (T.ite (!e.B) (T.ite (f.I != (0 : Int)) (T.leaf [D.b false]) (T.ite (g.I != (0 : Int)) (T.leaf [D.b false]) (T.ite false T.fail (T.need (yes (h.L.length < big)) (T.leaf [D.b !!hours h.L]))))) (T.need (yes (h.L.length < big)) (T.leaf [D.b !!hours h.L])))))))))) := by kernel_rfl
theorem t1071 (a b c d e f g h i j k l m n o p : D) : fnT C tab1071 71 s1071 [a, b, c, d, e, f, g, h, i, j, k, l, m, n, o, p] =
  T.ite (!within a.I (1 : Int) (1000 : Int)) (T.leaf [D.b false]) (T.ite (!within b.I (0 : Int) (600 : Int)) (T.leaf [D.b false]) (T.ite (!within c.I (0 : Int) (600 : Int)) (T.leaf [D.b false]) (T.ite (!within d.I (1 : Int) (60 : Int)) (T.leaf [D.b false]) (T.ite (!within f.I (0 : Int) (1000 : Int)) (T.leaf [D.b false]) (T.ite (!within g.I f.I (1000 : Int)) (T.leaf [D.b false]) (T.ite (decide ((h.L.length : Int) > (10 : Int))) (T.leaf [D.b false]) (T.ite false (T.ite e.B (T.leaf [D.b false]) (T.ite (!e.B) (T.ite (f.I != (0 : Int)) (T.leaf [D.b false]) (T.ite (g.I != (0 : Int)) (T.leaf [D.b false]) (T.ite true (T.ite (d.I != l.I) (T.leaf [D.b false]) (T.need (yes (h.L.length < big)) (T.leaf [D.b !!hours h.L]))) (T.need (yes (h.L.length < big)) (T.leaf [D.b !!hours h.L]))))) (T.need (yes (h.L.length < big)) (T.leaf [D.b !!hours h.L])))) (T.ite (!e.B) (T.ite (f.I != (0 : Int)) (T.leaf [D.b false]) (T.ite (g.I != (0 : Int)) (T.leaf [D.b false]) (T.ite true (T.ite (d.I != l.I) (T.leaf [D.b false]) (T.need (yes (h.L.length < big)) (T.leaf [D.b !!hours h.L]))) (T.need (yes (h.L.length < big)) (T.leaf [D.b !!hours h.L]))))) (T.need (yes (h.L.length < big)) (T.leaf [D.b !!hours h.L])))))))))) := by kernel_rfl
theorem t41 (a b c : D) : fnT C tab41 41 s41 [a, b, c] =
  T.ite (!within a.I (1 : Int) (200 : Int)) (T.leaf [D.i 2]) (T.ite (!within (c.L.length : Int) (1 : Int) (60 : Int)) (T.leaf [D.i 2]) (T.ite (!within b.I (0 : Int) (100000 : Int)) (T.leaf [D.i 2]) (T.need (yes ((↑0 : Int) = (0 : Int) ∧ c.L = c.L ∧ c.L.length ≤ 60 ∧ (c.L.length : Int) = (c.L.length : Int) ∧ (0 : Int) = (0 : Int))) (T.ite (allFrom (wayL c.L) 0 c.L.length) (T.leaf [D.i 0]) (T.leaf [D.i 2]))))) := by kernel_rfl
theorem t41_5_0 (a b c d e f : D) : roundT C tab41 41 (loopOf C.P 41 5) l41_5 [.i 0, a, b, c, d, e, f] =
  T.ite (decide (c.I < b.I)) (T.need (decide ((0 : Int) ≤ c.I ∧ c.I < (a.L.length : Int))) (T.ite (!wayB (mk8 (D.i (D.I (List.getD (List.getD a.L c.I.toNat []) 0 default))) (D.i (D.I (List.getD (List.getD a.L c.I.toNat []) (0 + 1) default))) (D.i (D.I (List.getD (List.getD a.L c.I.toNat []) (0 + 1 + 1) default))) (D.i (D.I (List.getD (List.getD a.L c.I.toNat []) (0 + 1 + 1 + 1) default))) (D.b (D.B (List.getD (List.getD a.L c.I.toNat []) (0 + 1 + 1 + 1 + 1) default))) (D.i (D.I (List.getD (List.getD a.L c.I.toNat []) (0 + 1 + 1 + 1 + 1 + 1) default))) (D.i (D.I (List.getD (List.getD a.L c.I.toNat []) (0 + 1 + 1 + 1 + 1 + 1 + 1) default))) (D.l (D.L (List.getD (List.getD a.L c.I.toNat []) (0 + 1 + 1 + 1 + 1 + 1 + 1 + 1) default)))) true (0 : Int)) (T.leaf (Rd.out Ex.ret [D.i 2])) (T.need (decide ((0 : Int) ≤ c.I ∧ c.I < (f.L.length : Int))) (T.leaf (Rd.again [D.i 1, D.i (D.I (List.getD (List.getD f.L c.I.toNat []) 0 default)), D.i (D.I (List.getD (List.getD f.L c.I.toNat []) (0 + 1) default)), D.i (D.I (List.getD (List.getD f.L c.I.toNat []) (0 + 1 + 1) default)), D.i (D.I (List.getD (List.getD f.L c.I.toNat []) (0 + 1 + 1 + 1) default)), D.b (D.B (List.getD (List.getD f.L c.I.toNat []) (0 + 1 + 1 + 1 + 1) default)), D.i (D.I (List.getD (List.getD f.L c.I.toNat []) (0 + 1 + 1 + 1 + 1 + 1) default)), D.i (D.I (List.getD (List.getD f.L c.I.toNat []) (0 + 1 + 1 + 1 + 1 + 1 + 1) default)), D.l (D.L (List.getD (List.getD f.L c.I.toNat []) (0 + 1 + 1 + 1 + 1 + 1 + 1 + 1) default)), D.l a.L, D.i b.I, D.i (IntKind.wrap IntKind.i64 (c.I + (1 : Int))), D.i d.I, D.i e.I, D.l f.L]))))) (T.leaf (Rd.out (Ex.exit 0) [])) := by kernel_rfl
theorem t41_5_1 (a b c d e f g h i j k l m n : D) : roundT C tab41 41 (loopOf C.P 41 5) l41_5 [.i 1, a, b, c, d, e, f, g, h, i, j, k, l, m, n] =
  T.ite (decide (k.I < j.I)) (T.need (decide ((0 : Int) ≤ k.I ∧ k.I < (i.L.length : Int))) (T.ite (!wayB (mk8 (D.i (D.I (List.getD (List.getD i.L k.I.toNat []) 0 default))) (D.i (D.I (List.getD (List.getD i.L k.I.toNat []) (0 + 1) default))) (D.i (D.I (List.getD (List.getD i.L k.I.toNat []) (0 + 1 + 1) default))) (D.i (D.I (List.getD (List.getD i.L k.I.toNat []) (0 + 1 + 1 + 1) default))) (D.b (D.B (List.getD (List.getD i.L k.I.toNat []) (0 + 1 + 1 + 1 + 1) default))) (D.i (D.I (List.getD (List.getD i.L k.I.toNat []) (0 + 1 + 1 + 1 + 1 + 1) default))) (D.i (D.I (List.getD (List.getD i.L k.I.toNat []) (0 + 1 + 1 + 1 + 1 + 1 + 1) default))) (D.l (D.L (List.getD (List.getD i.L k.I.toNat []) (0 + 1 + 1 + 1 + 1 + 1 + 1 + 1) default)))) false d.I) (T.leaf (Rd.out Ex.ret [D.i 2])) (T.need (decide ((0 : Int) ≤ k.I ∧ k.I < (n.L.length : Int))) (T.leaf (Rd.again [D.i 1, D.i (D.I (List.getD (List.getD n.L k.I.toNat []) 0 default)), D.i (D.I (List.getD (List.getD n.L k.I.toNat []) (0 + 1) default)), D.i (D.I (List.getD (List.getD n.L k.I.toNat []) (0 + 1 + 1) default)), D.i (D.I (List.getD (List.getD n.L k.I.toNat []) (0 + 1 + 1 + 1) default)), D.b (D.B (List.getD (List.getD n.L k.I.toNat []) (0 + 1 + 1 + 1 + 1) default)), D.i (D.I (List.getD (List.getD n.L k.I.toNat []) (0 + 1 + 1 + 1 + 1 + 1) default)), D.i (D.I (List.getD (List.getD n.L k.I.toNat []) (0 + 1 + 1 + 1 + 1 + 1 + 1) default)), D.l (D.L (List.getD (List.getD n.L k.I.toNat []) (0 + 1 + 1 + 1 + 1 + 1 + 1 + 1) default)), D.l i.L, D.i j.I, D.i (IntKind.wrap IntKind.i64 (k.I + (1 : Int))), D.i l.I, D.i m.I, D.l n.L]))))) (T.leaf (Rd.out (Ex.exit 0) [])) := by kernel_rfl
theorem t73 (a b c d : D) : fnT C tab73 73 s73 [a, b, c, d] =
  T.need (decide ((0 : Int) ≤ d.I ∧ d.I < (c.L.length : Int))) (T.leaf [D.i (IntKind.wrap IntKind.i64 (IntKind.wrap IntKind.i64 (IntKind.wrap IntKind.i64 (IntKind.wrap IntKind.i64 (a.I - (1 : Int)) * D.I (List.getD (List.getD c.L d.I.toNat []) (0 + 1 + 1 + 1) default)) + D.I (List.getD (List.getD c.L d.I.toNat []) 0 default)) + D.I (List.getD (List.getD c.L d.I.toNat []) (0 + 1 + 1) default)))]) := by kernel_rfl
end Go.Proofs.Ytipbcpobnciccaa
namespace Go.Lite
def partC : Nat → Code → Code
  | 0, .seq a _ => a
  | n + 1, .seq _ b => partC n b
  | _, c => c
def restC : Nat → Code → Code
  | 0, c => c
  | n + 1, .seq _ b => restC n b
  | _, c => c
def isSeq : Code → Bool
  | .seq _ _ => true
  | _ => false
noncomputable def fnAt (P : Program) (f : FuncId) : Func := (P.funcs[f]?).getD default
def bodyOf (fn : Func) : Code := fn.body.getD .skip
def EndsTrue (C : Cfg) (call : CallT) (f : FuncId) (fn : Func) (c : Code) (σ : St) : Prop := ∃ e σ', execA C call f 0 (none : Option (Hd Unit)) c σ () = some (e, σ', ()) ∧ (e = .normal ∨ e = .ret) ∧ finishA C f 0 fn σ' = some (.bool true, [])
def isTrueRes : Option (AV × Heap) → Bool
  | some (.bool true, []) => true
  | _ => false
def lastIs (C : Cfg) (call : CallT) (f : FuncId) (fn : Func) (c : Code) (σ : St) : Bool := match execA C call f 0 (none : Option (Hd Unit)) c σ () with
  | some (.normal, σ', ()) => isTrueRes (finishA C f 0 fn σ')
  | some (.ret, σ', ()) => isTrueRes (finishA C f 0 fn σ')
  | _ => false
theorem isTrueRes_spec {r : Option (AV × Heap)} (h : isTrueRes r = true) : r = some (.bool true, []) := by
  unfold isTrueRes at h
  split at h
  · rfl
  · cases h
theorem lastIs_spec {C : Cfg} {call : CallT} {f : FuncId} {fn : Func} {c : Code} {σ : St} (h : lastIs C call f fn c σ = true) : EndsTrue C call f fn c σ := by
  unfold lastIs at h
  split at h
  · rename_i σ' he; exact ⟨_, σ', he, .inl rfl, isTrueRes_spec h⟩
  · rename_i σ' he; exact ⟨_, σ', he, .inr rfl, isTrueRes_spec h⟩
  · cases h
theorem part_rest : ∀ {i : Nat} {c : Code}, isSeq (restC i c) = true → restC i c = .seq (partC i c) (restC (i + 1) c)
  | 0, .seq a b, _ => rfl
  | i + 1, .seq a b, h => part_rest (i := i) (c := b) h
  | 0, .skip, h => by cases h
  | 0, .label _, h => by cases h
  | 0, .region _ _ _, h => by cases h
  | 0, .cond _ _ _, h => by cases h
  | 0, .block _ _, h => by cases h
  | 0, .loop _, h => by cases h
  | 0, .rangeFunc _ _ _ _, h => by cases h
  | 0, .scope _, h => by cases h
  | 0, .exit _, h => by cases h
  | 0, .ret, h => by cases h
  | 0, .goto _, h => by cases h
  | 0, .refuse _, h => by cases h
  | i + 1, .skip, h => by cases h
  | i + 1, .label _, h => by cases h
  | i + 1, .region _ _ _, h => by cases h
  | i + 1, .cond _ _ _, h => by cases h
  | i + 1, .block _ _, h => by cases h
  | i + 1, .loop _, h => by cases h
  | i + 1, .rangeFunc _ _ _ _, h => by cases h
  | i + 1, .scope _, h => by cases h
  | i + 1, .exit _, h => by cases h
  | i + 1, .ret, h => by cases h
  | i + 1, .goto _, h => by cases h
  | i + 1, .refuse _, h => by cases h
theorem spine_step {C : Cfg} {call : CallT} {f : FuncId} {fn : Func} {c : Code} {i : Nat} {σ σ1 : St} (hs : isSeq (restC i c) = true) (h : execA C call f 0 (none : Option (Hd Unit)) (partC i c) σ () = some (.normal, σ1, ()))
    (hn : EndsTrue C call f fn (restC (i + 1) c) σ1) : EndsTrue C call f fn (restC i c) σ := by
  obtain ⟨e, σ', h1, h2, h3⟩ := hn
  refine ⟨e, σ', ?_, h2, h3⟩
  rw [part_rest hs]
  simp only [execA, h, h1]
theorem spine_call {C : Cfg} {n : Nat} {f : FuncId} {fn : Func} (h1 : (C.P.funcs[f]?).isSome = true) (h2 : fn = fnAt C.P f) (h3 : (fn.body.isSome && !hasDef (bodyOf fn)) = true) {σ0 : St} (h4 : (⟨List.replicate fn.ntmps .und, []⟩ : St) = σ0)
    (h : EndsTrue C (callA C n) f fn (restC 0 (bodyOf fn)) σ0) : callA C (n + 1) Unit none f [] [] () = some (.bool true, [], ()) := by
  obtain ⟨fn', hf⟩ := Option.isSome_iff_exists.1 h1
  have hfn : fn' = fn := by rw [h2]; simp [fnAt, hf]
  subst hfn
  simp only [Bool.and_eq_true, Bool.not_eq_true'] at h3
  obtain ⟨c, hc⟩ := Option.isSome_iff_exists.1 h3.1
  have hb : bodyOf fn' = c := by simp [bodyOf, hc]
  rw [hb] at h3 h
  obtain ⟨e, σ', he, hen, hfin⟩ := h
  simp only [restC] at he
  subst h4
  unfold callA
  simp only [hf, hc, h3.2, List.length_nil, List.nil_append, Nat.sub_zero, he]
  rcases hen with rfl | rfl <;> simp only [hfin, Option.map_some]
end Go.Lite
namespace Go.Proofs.Ytipbcpobnciccaa
open Go.Lite
set_option maxRecDepth 100000
noncomputable def kfn : Func := fnAt C.P 16
noncomputable def kbody : Code := bodyOf kfn
def ks0 : St := { tmps := List.replicate 96 .und, h := [] }
def ks1 : St := { tmps := [.bool false, .und, .und, .und, .und, .und, .und, .und, .und, .und, .und, .und, .und, .und, .und, .und, .und, .und, .und, .und, .und, .und, .und, .und, .und, .und, .und, .und, .und, .und, .und, .und, .und, .und, .und, .und, .und, .und, .und, .und, .und, .und, .und, .und, .und, .und, .und, .und, .und, .und, .und, .und, .und, .und, .und, .und, .und, .und, .und, .und, .und, .und, .und, .und, .und, .und, .und, .und, .und, .und, .und, .und, .und, .und, .und, .und, .und, .und, .und, .und, .und, .und, .und, .und, .und, .und, .und, .und, .und, .und, .und, .und, .und, .und, .und, .und], h := [] }
def ks2 : St := { tmps := [.bool false, .sl 1 1 0 3 (some 3), .nils, .int .i64 0, .und, .und, .und, .und, .und, .und, .und, .und, .und, .tup [.sl 1 1 0 3 (some 3), .nils, .int .i64 0], .sl 0 3 0 4 (some 4), .tup [.sl 1 1 0 3 (some 3), .nils, .int .i64 0], .sl 1 1 0 3 (some 3), .nils, .int .i64 0, .und, .und, .und, .und, .und, .und, .und, .und, .und, .und, .und, .und, .und, .und, .und, .und, .und, .und, .und, .und, .und, .und, .und, .und, .und, .und, .und, .und, .und, .und, .und, .und, .und, .und, .und, .und, .und, .und, .und, .und, .und, .und, .und, .und, .und, .und, .und, .und, .und, .und, .und, .und, .und, .und, .und, .und, .und, .und, .und, .und, .und, .und, .und, .und, .und, .und, .und, .und, .und, .und, .und, .und, .und, .und, .und, .und, .und], h := [some (.row 3 [[.int .i64 0, .int .i64 1, .int .i64 5], [.int .i64 1, .int .i64 2, .int .i64 3], [.int .i64 0, .int .i64 2, .int .i64 6], [.int .i64 2, .int .i64 1, .int .i64 (-4)]] true), some (.row 1 [[.int .i64 0], [.int .i64 5], [.int .i64 8]] true)] }
def ks3 : St := { tmps := [.bool false, .sl 1 1 0 3 (some 3), .nils, .int .i64 0, .sl 3 1 0 3 (some 3), .int .i64 0, .und, .und, .und, .und, .und, .und, .und, .tup [.sl 1 1 0 3 (some 3), .nils, .int .i64 0], .sl 0 3 0 4 (some 4), .tup [.sl 1 1 0 3 (some 3), .nils, .int .i64 0], .sl 1 1 0 3 (some 3), .nils, .int .i64 0, .tup [.sl 3 1 0 3 (some 3), .int .i64 0], .sl 2 3 0 4 (some 4), .tup [.sl 3 1 0 3 (some 3), .int .i64 0], .sl 3 1 0 3 (some 3), .int .i64 0, .und, .und, .und, .und, .und, .und, .und, .und, .und, .und, .und, .und, .und, .und, .und, .und, .und, .und, .und, .und, .und, .und, .und, .und, .und, .und, .und, .und, .und, .und, .und, .und, .und, .und, .und, .und, .und, .und, .und, .und, .und, .und, .und, .und, .und, .und, .und, .und, .und, .und, .und, .und, .und, .und, .und, .und, .und, .und, .und, .und, .und, .und, .und, .und, .und, .und, .und, .und, .und, .und, .und, .und], h := [some (.row 3 [[.int .i64 0, .int .i64 1, .int .i64 5], [.int .i64 1, .int .i64 2, .int .i64 3], [.int .i64 0, .int .i64 2, .int .i64 6], [.int .i64 2, .int .i64 1, .int .i64 (-4)]] true), some (.row 1 [[.int .i64 0], [.int .i64 5], [.int .i64 8]] true), some (.row 3 [[.int .i64 0, .int .i64 1, .int .i64 5], [.int .i64 1, .int .i64 2, .int .i64 3], [.int .i64 0, .int .i64 2, .int .i64 6], [.int .i64 2, .int .i64 1, .int .i64 (-4)]] true), some (.row 1 [[.int .i64 0], [.int .i64 17], [.int .i64 20]] true)] }
def ks4 : St := { tmps := [.bool false, .sl 1 1 0 3 (some 3), .nils, .int .i64 0, .sl 3 1 0 3 (some 3), .int .i64 0, .sl 5 1 0 2 none, .int .i64 0, .und, .und, .und, .und, .und, .tup [.sl 1 1 0 3 (some 3), .nils, .int .i64 0], .sl 0 3 0 4 (some 4), .tup [.sl 1 1 0 3 (some 3), .nils, .int .i64 0], .sl 1 1 0 3 (some 3), .nils, .int .i64 0, .tup [.sl 3 1 0 3 (some 3), .int .i64 0], .sl 2 3 0 4 (some 4), .tup [.sl 3 1 0 3 (some 3), .int .i64 0], .sl 3 1 0 3 (some 3), .int .i64 0, .tup [.sl 5 1 0 2 none, .int .i64 0], .sl 4 3 0 4 (some 4), .tup [.sl 5 1 0 2 none, .int .i64 0], .sl 5 1 0 2 none, .int .i64 0, .und, .und, .und, .und, .und, .und, .und, .und, .und, .und, .und, .und, .und, .und, .und, .und, .und, .und, .und, .und, .und, .und, .und, .und, .und, .und, .und, .und, .und, .und, .und, .und, .und, .und, .und, .und, .und, .und, .und, .und, .und, .und, .und, .und, .und, .und, .und, .und, .und, .und, .und, .und, .und, .und, .und, .und, .und, .und, .und, .und, .und, .und, .und, .und, .und, .und, .und], h := [some (.row 3 [[.int .i64 0, .int .i64 1, .int .i64 5], [.int .i64 1, .int .i64 2, .int .i64 3], [.int .i64 0, .int .i64 2, .int .i64 6], [.int .i64 2, .int .i64 1, .int .i64 (-4)]] true), some (.row 1 [[.int .i64 0], [.int .i64 5], [.int .i64 8]] true), some (.row 3 [[.int .i64 0, .int .i64 1, .int .i64 5], [.int .i64 1, .int .i64 2, .int .i64 3], [.int .i64 0, .int .i64 2, .int .i64 6], [.int .i64 2, .int .i64 1, .int .i64 (-4)]] true), some (.row 1 [[.int .i64 0], [.int .i64 17], [.int .i64 20]] true), some (.row 3 [[.int .i64 0, .int .i64 1, .int .i64 5], [.int .i64 1, .int .i64 2, .int .i64 3], [.int .i64 0, .int .i64 2, .int .i64 6], [.int .i64 2, .int .i64 1, .int .i64 (-4)]] true), some (.row 1 [[.int .i64 0], [.int .i64 1]] true)] }
def ks5 : St := { tmps := [.bool false, .sl 1 1 0 3 (some 3), .nils, .int .i64 0, .sl 3 1 0 3 (some 3), .int .i64 0, .sl 5 1 0 2 none, .int .i64 0, .nils, .sl 9 1 0 3 none, .int .i64 5, .und, .und, .tup [.sl 1 1 0 3 (some 3), .nils, .int .i64 0], .sl 0 3 0 4 (some 4), .tup [.sl 1 1 0 3 (some 3), .nils, .int .i64 0], .sl 1 1 0 3 (some 3), .nils, .int .i64 0, .tup [.sl 3 1 0 3 (some 3), .int .i64 0], .sl 2 3 0 4 (some 4), .tup [.sl 3 1 0 3 (some 3), .int .i64 0], .sl 3 1 0 3 (some 3), .int .i64 0, .tup [.sl 5 1 0 2 none, .int .i64 0], .sl 4 3 0 4 (some 4), .tup [.sl 5 1 0 2 none, .int .i64 0], .sl 5 1 0 2 none, .int .i64 0, .tup [.nils, .sl 9 1 0 3 none, .int .i64 5], .sl 6 3 0 4 (some 4), .agg [.int .i64 2, .int .i64 0, .int .i64 (-7)], .sl 7 3 0 1 (some 1), .sl 8 3 0 5 none, .tup [.nils, .sl 9 1 0 3 none, .int .i64 5], .nils, .sl 9 1 0 3 none, .int .i64 5, .und, .und, .und, .und, .und, .und, .und, .und, .und, .und, .und, .und, .und, .und, .und, .und, .und, .und, .und, .und, .und, .und, .und, .und, .und, .und, .und, .und, .und, .und, .und, .und, .und, .und, .und, .und, .und, .und, .und, .und, .und, .und, .und, .und, .und, .und, .und, .und, .und, .und, .und, .und, .und, .und, .und, .und, .und, .und], h := [some (.row 3 [[.int .i64 0, .int .i64 1, .int .i64 5], [.int .i64 1, .int .i64 2, .int .i64 3], [.int .i64 0, .int .i64 2, .int .i64 6], [.int .i64 2, .int .i64 1, .int .i64 (-4)]] true), some (.row 1 [[.int .i64 0], [.int .i64 5], [.int .i64 8]] true), some (.row 3 [[.int .i64 0, .int .i64 1, .int .i64 5], [.int .i64 1, .int .i64 2, .int .i64 3], [.int .i64 0, .int .i64 2, .int .i64 6], [.int .i64 2, .int .i64 1, .int .i64 (-4)]] true), some (.row 1 [[.int .i64 0], [.int .i64 17], [.int .i64 20]] true), some (.row 3 [[.int .i64 0, .int .i64 1, .int .i64 5], [.int .i64 1, .int .i64 2, .int .i64 3], [.int .i64 0, .int .i64 2, .int .i64 6], [.int .i64 2, .int .i64 1, .int .i64 (-4)]] true), some (.row 1 [[.int .i64 0], [.int .i64 1]] true), none, some (.row 3 [[.int .i64 2, .int .i64 0, .int .i64 (-7)]] true), some (.row 3 [[.int .i64 0, .int .i64 1, .int .i64 5], [.int .i64 1, .int .i64 2, .int .i64 3], [.int .i64 0, .int .i64 2, .int .i64 6], [.int .i64 2, .int .i64 1, .int .i64 (-4)], [.int .i64 2, .int .i64 0, .int .i64 (-7)]] true), some (.row 1 [[.int .i64 4], [.int .i64 0], [.int .i64 1]] true)] }
def ks6 : St := { tmps := [.bool false, .sl 1 1 0 3 (some 3), .nils, .int .i64 0, .sl 3 1 0 3 (some 3), .int .i64 0, .sl 5 1 0 2 none, .int .i64 0, .nils, .sl 9 1 0 3 none, .int .i64 5, .ptr 14 4 0 0, .int .i64 0, .tup [.sl 1 1 0 3 (some 3), .nils, .int .i64 0], .sl 0 3 0 4 (some 4), .tup [.sl 1 1 0 3 (some 3), .nils, .int .i64 0], .sl 1 1 0 3 (some 3), .nils, .int .i64 0, .tup [.sl 3 1 0 3 (some 3), .int .i64 0], .sl 2 3 0 4 (some 4), .tup [.sl 3 1 0 3 (some 3), .int .i64 0], .sl 3 1 0 3 (some 3), .int .i64 0, .tup [.sl 5 1 0 2 none, .int .i64 0], .sl 4 3 0 4 (some 4), .tup [.sl 5 1 0 2 none, .int .i64 0], .sl 5 1 0 2 none, .int .i64 0, .tup [.nils, .sl 9 1 0 3 none, .int .i64 5], .sl 6 3 0 4 (some 4), .agg [.int .i64 2, .int .i64 0, .int .i64 (-7)], .sl 7 3 0 1 (some 1), .sl 8 3 0 5 none, .tup [.nils, .sl 9 1 0 3 none, .int .i64 5], .nils, .sl 9 1 0 3 none, .int .i64 5, .tup [.agg [.sl 10 1 1 3 (some 3), .sl 11 1 0 2 none, .sl 12 1 0 2 none, .sl 13 1 0 2 none], .int .i64 0], .agg [.int .i64 3, .int .i64 100, .ro .g true 8 [[.int .i64 20, .int .i64 30, .int .i64 10, .int .i64 2, .bool false, .int .i64 0, .int .i64 0, .ro .g true 3 [[.int .i64 60, .int .i64 200, .int .i64 70]]], [.int .i64 15, .int .i64 0, .int .i64 0, .int .i64 2, .bool true, .int .i64 5, .int .i64 30, .nils]]], .tup [.agg [.sl 10 1 1 3 (some 3), .sl 11 1 0 2 none, .sl 12 1 0 2 none, .sl 13 1 0 2 none], .int .i64 0], .agg [.sl 10 1 1 3 (some 3), .sl 11 1 0 2 none, .sl 12 1 0 2 none, .sl 13 1 0 2 none], .int .i64 0, .und, .und, .und, .und, .und, .und, .und, .und, .und, .und, .und, .und, .und, .und, .und, .und, .und, .und, .und, .und, .und, .und, .und, .und, .und, .und, .und, .und, .und, .und, .und, .und, .und, .und, .und, .und, .und, .und, .und, .und, .und, .und, .und, .und, .und, .und, .und, .und, .und, .und, .und, .und, .und], h := [some (.row 3 [[.int .i64 0, .int .i64 1, .int .i64 5], [.int .i64 1, .int .i64 2, .int .i64 3], [.int .i64 0, .int .i64 2, .int .i64 6], [.int .i64 2, .int .i64 1, .int .i64 (-4)]] true), some (.row 1 [[.int .i64 0], [.int .i64 5], [.int .i64 8]] true), some (.row 3 [[.int .i64 0, .int .i64 1, .int .i64 5], [.int .i64 1, .int .i64 2, .int .i64 3], [.int .i64 0, .int .i64 2, .int .i64 6], [.int .i64 2, .int .i64 1, .int .i64 (-4)]] true), some (.row 1 [[.int .i64 0], [.int .i64 17], [.int .i64 20]] true), some (.row 3 [[.int .i64 0, .int .i64 1, .int .i64 5], [.int .i64 1, .int .i64 2, .int .i64 3], [.int .i64 0, .int .i64 2, .int .i64 6], [.int .i64 2, .int .i64 1, .int .i64 (-4)]] true), some (.row 1 [[.int .i64 0], [.int .i64 1]] true), none, some (.row 3 [[.int .i64 2, .int .i64 0, .int .i64 (-7)]] true), some (.row 3 [[.int .i64 0, .int .i64 1, .int .i64 5], [.int .i64 1, .int .i64 2, .int .i64 3], [.int .i64 0, .int .i64 2, .int .i64 6], [.int .i64 2, .int .i64 1, .int .i64 (-4)], [.int .i64 2, .int .i64 0, .int .i64 (-7)]] true), some (.row 1 [[.int .i64 4], [.int .i64 0], [.int .i64 1]] true), some (.row 1 [[.int .i64 0], [.int .i64 100], [.int .i64 129], [.int .i64 144]] true), some (.row 1 [[.int .i64 70], [.int .i64 129]] true), some (.row 1 [[.int .i64 134], [.int .i64 148]] true), some (.row 1 [[.int .i64 0], [.int .i64 (-1)]] true), some (.row 4 [[.sl 10 1 1 3 (some 3), .sl 11 1 0 2 none, .sl 12 1 0 2 none, .sl 13 1 0 2 none]] false)] }
def ks7 : St := { tmps := [.bool false, .sl 1 1 0 3 (some 3), .nils, .int .i64 0, .sl 3 1 0 3 (some 3), .int .i64 0, .sl 5 1 0 2 none, .int .i64 0, .nils, .sl 9 1 0 3 none, .int .i64 5, .ptr 14 4 0 0, .int .i64 0, .tup [.sl 1 1 0 3 (some 3), .nils, .int .i64 0], .sl 0 3 0 4 (some 4), .tup [.sl 1 1 0 3 (some 3), .nils, .int .i64 0], .sl 1 1 0 3 (some 3), .nils, .int .i64 0, .tup [.sl 3 1 0 3 (some 3), .int .i64 0], .sl 2 3 0 4 (some 4), .tup [.sl 3 1 0 3 (some 3), .int .i64 0], .sl 3 1 0 3 (some 3), .int .i64 0, .tup [.sl 5 1 0 2 none, .int .i64 0], .sl 4 3 0 4 (some 4), .tup [.sl 5 1 0 2 none, .int .i64 0], .sl 5 1 0 2 none, .int .i64 0, .tup [.nils, .sl 9 1 0 3 none, .int .i64 5], .sl 6 3 0 4 (some 4), .agg [.int .i64 2, .int .i64 0, .int .i64 (-7)], .sl 7 3 0 1 (some 1), .sl 8 3 0 5 none, .tup [.nils, .sl 9 1 0 3 none, .int .i64 5], .nils, .sl 9 1 0 3 none, .int .i64 5, .tup [.agg [.sl 10 1 1 3 (some 3), .sl 11 1 0 2 none, .sl 12 1 0 2 none, .sl 13 1 0 2 none], .int .i64 0], .agg [.int .i64 3, .int .i64 100, .ro .g true 8 [[.int .i64 20, .int .i64 30, .int .i64 10, .int .i64 2, .bool false, .int .i64 0, .int .i64 0, .ro .g true 3 [[.int .i64 60, .int .i64 200, .int .i64 70]]], [.int .i64 15, .int .i64 0, .int .i64 0, .int .i64 2, .bool true, .int .i64 5, .int .i64 30, .nils]]], .tup [.agg [.sl 10 1 1 3 (some 3), .sl 11 1 0 2 none, .sl 12 1 0 2 none, .sl 13 1 0 2 none], .int .i64 0], .agg [.sl 10 1 1 3 (some 3), .sl 11 1 0 2 none, .sl 12 1 0 2 none, .sl 13 1 0 2 none], .int .i64 0, .int .i64 0, .bool false, .bool false, .int .i64 0, .bool false, .bool false, .bool false, .int .i64 0, .bool false, .bool false, .bool false, .int .i64 5, .bool false, .bool false, .bool false, .int .i64 0, .bool false, .bool false, .bool false, .nils, .int .i64 0, .bool false, .bool false, .und, .und, .und, .und, .und, .und, .und, .und, .und, .und, .und, .und, .und, .und, .und, .und, .und, .und, .und, .und, .und, .und, .und, .und, .und, .und, .und, .und, .und, .und], h := [some (.row 3 [[.int .i64 0, .int .i64 1, .int .i64 5], [.int .i64 1, .int .i64 2, .int .i64 3], [.int .i64 0, .int .i64 2, .int .i64 6], [.int .i64 2, .int .i64 1, .int .i64 (-4)]] true), some (.row 1 [[.int .i64 0], [.int .i64 5], [.int .i64 8]] true), some (.row 3 [[.int .i64 0, .int .i64 1, .int .i64 5], [.int .i64 1, .int .i64 2, .int .i64 3], [.int .i64 0, .int .i64 2, .int .i64 6], [.int .i64 2, .int .i64 1, .int .i64 (-4)]] true), some (.row 1 [[.int .i64 0], [.int .i64 17], [.int .i64 20]] true), some (.row 3 [[.int .i64 0, .int .i64 1, .int .i64 5], [.int .i64 1, .int .i64 2, .int .i64 3], [.int .i64 0, .int .i64 2, .int .i64 6], [.int .i64 2, .int .i64 1, .int .i64 (-4)]] true), some (.row 1 [[.int .i64 0], [.int .i64 1]] true), none, some (.row 3 [[.int .i64 2, .int .i64 0, .int .i64 (-7)]] true), some (.row 3 [[.int .i64 0, .int .i64 1, .int .i64 5], [.int .i64 1, .int .i64 2, .int .i64 3], [.int .i64 0, .int .i64 2, .int .i64 6], [.int .i64 2, .int .i64 1, .int .i64 (-4)], [.int .i64 2, .int .i64 0, .int .i64 (-7)]] true), some (.row 1 [[.int .i64 4], [.int .i64 0], [.int .i64 1]] true), some (.row 1 [[.int .i64 0], [.int .i64 100], [.int .i64 129], [.int .i64 144]] true), some (.row 1 [[.int .i64 70], [.int .i64 129]] true), some (.row 1 [[.int .i64 134], [.int .i64 148]] true), some (.row 1 [[.int .i64 0], [.int .i64 (-1)]] true), some (.row 4 [[.sl 10 1 1 3 (some 3), .sl 11 1 0 2 none, .sl 12 1 0 2 none, .sl 13 1 0 2 none]] false)] }
def ks8 : St := { tmps := [.bool true, .sl 1 1 0 3 (some 3), .nils, .int .i64 0, .sl 3 1 0 3 (some 3), .int .i64 0, .sl 5 1 0 2 none, .int .i64 0, .nils, .sl 9 1 0 3 none, .int .i64 5, .ptr 14 4 0 0, .int .i64 0, .tup [.sl 1 1 0 3 (some 3), .nils, .int .i64 0], .sl 0 3 0 4 (some 4), .tup [.sl 1 1 0 3 (some 3), .nils, .int .i64 0], .sl 1 1 0 3 (some 3), .nils, .int .i64 0, .tup [.sl 3 1 0 3 (some 3), .int .i64 0], .sl 2 3 0 4 (some 4), .tup [.sl 3 1 0 3 (some 3), .int .i64 0], .sl 3 1 0 3 (some 3), .int .i64 0, .tup [.sl 5 1 0 2 none, .int .i64 0], .sl 4 3 0 4 (some 4), .tup [.sl 5 1 0 2 none, .int .i64 0], .sl 5 1 0 2 none, .int .i64 0, .tup [.nils, .sl 9 1 0 3 none, .int .i64 5], .sl 6 3 0 4 (some 4), .agg [.int .i64 2, .int .i64 0, .int .i64 (-7)], .sl 7 3 0 1 (some 1), .sl 8 3 0 5 none, .tup [.nils, .sl 9 1 0 3 none, .int .i64 5], .nils, .sl 9 1 0 3 none, .int .i64 5, .tup [.agg [.sl 10 1 1 3 (some 3), .sl 11 1 0 2 none, .sl 12 1 0 2 none, .sl 13 1 0 2 none], .int .i64 0], .agg [.int .i64 3, .int .i64 100, .ro .g true 8 [[.int .i64 20, .int .i64 30, .int .i64 10, .int .i64 2, .bool false, .int .i64 0, .int .i64 0, .ro .g true 3 [[.int .i64 60, .int .i64 200, .int .i64 70]]], [.int .i64 15, .int .i64 0, .int .i64 0, .int .i64 2, .bool true, .int .i64 5, .int .i64 30, .nils]]], .tup [.agg [.sl 10 1 1 3 (some 3), .sl 11 1 0 2 none, .sl 12 1 0 2 none, .sl 13 1 0 2 none], .int .i64 0], .agg [.sl 10 1 1 3 (some 3), .sl 11 1 0 2 none, .sl 12 1 0 2 none, .sl 13 1 0 2 none], .int .i64 0, .int .i64 0, .bool false, .bool false, .int .i64 0, .bool false, .bool false, .bool false, .int .i64 0, .bool false, .bool false, .bool false, .int .i64 5, .bool false, .bool false, .bool false, .int .i64 0, .bool false, .bool false, .bool false, .nils, .int .i64 0, .bool false, .bool false, .sl 1 1 0 3 (some 3), .sl 15 1 0 3 (some 3), .bool true, .bool true, .sl 3 1 0 3 (some 3), .sl 16 1 0 3 (some 3), .bool true, .bool true, .bool true, .sl 5 1 0 2 none, .sl 17 1 0 2 (some 2), .bool true, .bool true, .bool true, .sl 18 3 0 4 (some 4), .agg [.int .i64 2, .int .i64 0, .int .i64 (-7)], .sl 19 3 0 1 (some 1), .sl 20 3 0 5 none, .sl 9 1 0 3 none, .bool true, .bool true, .bool true, .agg [.sl 10 1 1 3 (some 3), .sl 11 1 0 2 none, .sl 12 1 0 2 none, .sl 13 1 0 2 none], .sl 21 1 0 3 (some 3), .sl 22 1 0 2 (some 2), .sl 23 1 0 2 (some 2), .sl 24 1 0 2 (some 2), .agg [.sl 21 1 0 3 (some 3), .sl 22 1 0 2 (some 2), .sl 23 1 0 2 (some 2), .sl 24 1 0 2 (some 2)], .bool true, .bool true], h := [some (.row 3 [[.int .i64 0, .int .i64 1, .int .i64 5], [.int .i64 1, .int .i64 2, .int .i64 3], [.int .i64 0, .int .i64 2, .int .i64 6], [.int .i64 2, .int .i64 1, .int .i64 (-4)]] true), some (.row 1 [[.int .i64 0], [.int .i64 5], [.int .i64 8]] true), some (.row 3 [[.int .i64 0, .int .i64 1, .int .i64 5], [.int .i64 1, .int .i64 2, .int .i64 3], [.int .i64 0, .int .i64 2, .int .i64 6], [.int .i64 2, .int .i64 1, .int .i64 (-4)]] true), some (.row 1 [[.int .i64 0], [.int .i64 17], [.int .i64 20]] true), some (.row 3 [[.int .i64 0, .int .i64 1, .int .i64 5], [.int .i64 1, .int .i64 2, .int .i64 3], [.int .i64 0, .int .i64 2, .int .i64 6], [.int .i64 2, .int .i64 1, .int .i64 (-4)]] true), some (.row 1 [[.int .i64 0], [.int .i64 1]] true), none, some (.row 3 [[.int .i64 2, .int .i64 0, .int .i64 (-7)]] true), some (.row 3 [[.int .i64 0, .int .i64 1, .int .i64 5], [.int .i64 1, .int .i64 2, .int .i64 3], [.int .i64 0, .int .i64 2, .int .i64 6], [.int .i64 2, .int .i64 1, .int .i64 (-4)], [.int .i64 2, .int .i64 0, .int .i64 (-7)]] true), some (.row 1 [[.int .i64 4], [.int .i64 0], [.int .i64 1]] true), some (.row 1 [[.int .i64 0], [.int .i64 100], [.int .i64 129], [.int .i64 144]] true), some (.row 1 [[.int .i64 70], [.int .i64 129]] true), some (.row 1 [[.int .i64 134], [.int .i64 148]] true), some (.row 1 [[.int .i64 0], [.int .i64 (-1)]] true), some (.row 4 [[.sl 10 1 1 3 (some 3), .sl 11 1 0 2 none, .sl 12 1 0 2 none, .sl 13 1 0 2 none]] false), some (.row 1 [[.int .i64 0], [.int .i64 5], [.int .i64 8]] true), some (.row 1 [[.int .i64 0], [.int .i64 17], [.int .i64 20]] true), some (.row 1 [[.int .i64 0], [.int .i64 1]] true), none, some (.row 3 [[.int .i64 2, .int .i64 0, .int .i64 (-7)]] true), some (.row 3 [[.int .i64 0, .int .i64 1, .int .i64 5], [.int .i64 1, .int .i64 2, .int .i64 3], [.int .i64 0, .int .i64 2, .int .i64 6], [.int .i64 2, .int .i64 1, .int .i64 (-4)], [.int .i64 2, .int .i64 0, .int .i64 (-7)]] true), some (.row 1 [[.int .i64 100], [.int .i64 129], [.int .i64 144]] true), some (.row 1 [[.int .i64 70], [.int .i64 129]] true), some (.row 1 [[.int .i64 134], [.int .i64 148]] true), some (.row 1 [[.int .i64 0], [.int .i64 (-1)]] true)] }
theorem kp0 : execA C (callA C 11) 16 0 (none : Option (Hd Unit)) (partC 0 kbody) ks0 () = some (.normal, ks1, ()) := by kernel_rfl
theorem kr0 : isSeq (restC 0 kbody) = true := by kernel_rfl
theorem kp1 : execA C (callA C 11) 16 0 (none : Option (Hd Unit)) (partC 1 kbody) ks1 () = some (.normal, ks2, ()) := by kernel_rfl
theorem kr1 : isSeq (restC 1 kbody) = true := by kernel_rfl
theorem kp2 : execA C (callA C 11) 16 0 (none : Option (Hd Unit)) (partC 2 kbody) ks2 () = some (.normal, ks3, ()) := by kernel_rfl
theorem kr2 : isSeq (restC 2 kbody) = true := by kernel_rfl
theorem kp3 : execA C (callA C 11) 16 0 (none : Option (Hd Unit)) (partC 3 kbody) ks3 () = some (.normal, ks4, ()) := by kernel_rfl
theorem kr3 : isSeq (restC 3 kbody) = true := by kernel_rfl
theorem kp4 : execA C (callA C 11) 16 0 (none : Option (Hd Unit)) (partC 4 kbody) ks4 () = some (.normal, ks5, ()) := by kernel_rfl
theorem kr4 : isSeq (restC 4 kbody) = true := by kernel_rfl
theorem kp5 : execA C (callA C 11) 16 0 (none : Option (Hd Unit)) (partC 5 kbody) ks5 () = some (.normal, ks6, ()) := by kernel_rfl
theorem kr5 : isSeq (restC 5 kbody) = true := by kernel_rfl
theorem kp6 : execA C (callA C 11) 16 0 (none : Option (Hd Unit)) (partC 6 kbody) ks6 () = some (.normal, ks7, ()) := by kernel_rfl
theorem kr6 : isSeq (restC 6 kbody) = true := by kernel_rfl
theorem kp7 : execA C (callA C 11) 16 0 (none : Option (Hd Unit)) (partC 7 kbody) ks7 () = some (.normal, ks8, ()) := by kernel_rfl
theorem kr7 : isSeq (restC 7 kbody) = true := by kernel_rfl
theorem kq : lastIs C (callA C 11) 16 kfn (restC 8 kbody) ks8 = true := by kernel_rfl
theorem k1 : (C.P.funcs[16]?).isSome = true := by kernel_rfl
theorem k2 : (kfn.body.isSome && !hasDef kbody) = true := by kernel_rfl
theorem k3 : (⟨List.replicate kfn.ntmps .und, []⟩ : St) = ks0 := by kernel_rfl
theorem ke8 : EndsTrue C (callA C 11) 16 kfn (restC 8 kbody) ks8 := lastIs_spec kq
theorem ke7 : EndsTrue C (callA C 11) 16 kfn (restC 7 kbody) ks7 := spine_step kr7 kp7 ke8
theorem ke6 : EndsTrue C (callA C 11) 16 kfn (restC 6 kbody) ks6 := spine_step kr6 kp6 ke7
theorem ke5 : EndsTrue C (callA C 11) 16 kfn (restC 5 kbody) ks5 := spine_step kr5 kp5 ke6
theorem ke4 : EndsTrue C (callA C 11) 16 kfn (restC 4 kbody) ks4 := spine_step kr4 kp4 ke5
theorem ke3 : EndsTrue C (callA C 11) 16 kfn (restC 3 kbody) ks3 := spine_step kr3 kp3 ke4
theorem ke2 : EndsTrue C (callA C 11) 16 kfn (restC 2 kbody) ks2 := spine_step kr2 kp2 ke3
theorem ke1 : EndsTrue C (callA C 11) 16 kfn (restC 1 kbody) ks1 := spine_step kr1 kp1 ke2
theorem ke0 : EndsTrue C (callA C 11) 16 kfn (restC 0 kbody) ks0 := spine_step kr0 kp0 ke1
theorem known0 : callA C 12 Unit none 16 [] [] () = some (.bool true, [], ()) := spine_call k1 rfl k2 k3 ke0
end Go.Proofs.Ytipbcpobnciccaa
namespace Go.Proofs.Ytipbcpobnciccaa
open Go.Lite
set_option maxRecDepth 100000
set_option linter.unusedVariables false
theorem wayB_mk (a b c d e f g h : D) (first : Bool) (p : Int) : wayB (mk8 a b c d e f g h) first p = (decide ((1 ≤ a.I ∧ a.I ≤ 1000) ∧ (0 ≤ b.I ∧ b.I ≤ 600) ∧ (0 ≤ c.I ∧ c.I ≤ 600) ∧ (1 ≤ d.I ∧ d.I ≤ 60) ∧ (0 ≤ f.I ∧ f.I ≤ g.I) ∧ g.I ≤ 1000 ∧ h.L.length ≤ 10) &&
    ((if e.B then !first else (decide (f.I = 0 ∧ g.I = 0) && (first || decide (d.I = p)))) && hours h.L)) := rfl
theorem wayL_mk (w : List (List D)) (k : Nat) (first : Bool) (p : Int) : wayB (mk8 (.i (ix (w.getD k []) 0)) (.i (ix (w.getD k []) 1)) (.i (ix (w.getD k []) 2)) (.i (ix (w.getD k []) 3)) (.b (bx (w.getD k []) 4)) (.i (ix (w.getD k []) 5)) (.i (ix (w.getD k []) 6)) (.l (lx (w.getD k []) 7))) first p = wayB (w.getD k []) first p := rfl
theorem bne_t {a b : Int} (h : (a != b) = true) : a ≠ b := bne_iff_ne.1 h
theorem bne_f {a b : Int} (h : (a != b) = false) : a = b := by
  by_cases e : a = b
  · exact e
  · have := bne_iff_ne.2 e
    rw [h] at this
    cases this
theorem ok16 : FnOK C 12 16 (mkF s16 G16) := by
  intro args v hb h avs hv
  unfold mkF at h
  split at h
  · rename_i ds hds
    have ha : args = [] := by
      cases args with
      | nil => rfl
      | cons x y => simp [s16, fitsVs] at hds
    subst ha
    simp only [VRL] at hv
    subst hv
    simp only [s16, fitsVs, Option.some.injEq] at hds
    subst hds
    simp only [G16, T.run_map, run_leaf, Option.map_some, Option.some.injEq] at h
    obtain ⟨rfl, rfl⟩ := Prod.mk.inj h
    exact ⟨_, _, known0, rfl, rfl, fun i => by cases i <;> exact trivial⟩
  · cases h
theorem ok86 (n : Nat) : FnOK C (n + 2) 86 (mkF s86 G86) := by
  refine fn_ofS hC (sp := sp86) (lp := lp86) (sw := sw86) ⟨ok48 n, trivial⟩ trivial (by kernel_rfl) [] (by kernel_rfl) rfl (fun k hk => by cases hk) fun ds r h => ?_
  unfold G86 at h
  split at h
  · rename_i a b c
    refine (congrArg T.run (t86 a b c)).trans ?_
    rw [← h]
    simp only [within_dec]
    refine go_if (fun c1 => by rw [decide_eq_false (by omega)]; rfl) fun c1 => go_if (fun c2 => by rw [decide_eq_false (by omega)]; rfl) fun c2 => go_if (fun c3 => by rw [decide_eq_false (by omega)]; rfl) fun c3 => ?_
    by_cases c4 : 0 ≤ c.I ∧ c.I ≤ 200000
    · rw [decide_eq_true c4, decide_eq_true (by omega)]
    · rw [decide_eq_false c4, decide_eq_false (by omega)]
  · cases h
theorem ok88_2 (n : Nat) : LoopSim C (n + 2) 88 (loopOf C.P 88 2) (mkL l88_2 G88_2) := by
  refine loop_ofK hC (sp := sp88) (lp := lp88) (sw := sw88) ⟨ok86 n, trivial⟩ trivial 0 [] (by kernel_rfl) rfl (fun k hk => by cases hk) (by kernel_rfl) (fun ds => ((ds.getD 1 default).I - (ds.getD 2 default).I).toNat) fun ds rr h => ?_
  unfold G88_2 at h
  split at h
  · rename_i l m i
    obtain ⟨hp, h⟩ := need_some h
    rw [yes_iff] at hp
    obtain ⟨hl, hm, hi0, hi1⟩ := hp
    have hb := big_eq
    refine ⟨by rw [fuelC]; simp; omega, ?_⟩
    rw [show roundTK C (mkTab sp88 lp88 sw88) 88 (loopOf C.P 88 2) 0 l88_2 [l, m, i] = _ from t88_2 l m i]
    obtain ⟨k, hk⟩ : ∃ k : Nat, i.I = k := ⟨i.I.toNat, by omega⟩
    simp only [hk, hm, Int.toNat_natCast, Nat.reduceAdd, ix_def] at h hi0 hi1 ⊢
    refine rd_if (fun hlt => ?_) fun hge => rd_out (first_end h (by omega))
    obtain ⟨s1, s2⟩ := first_step h (by omega : k < l.L.length)
    refine rd_dec (by omega) (rd_ite (fun c => rd_out (s1 c)) fun c => ?_)
    rw [wrap_succ (by omega)]
    exact rd_again ((need_yes ⟨hl, rfl, by simp only [I_i]; omega, by simp only [I_i, L_l]; omega⟩).trans (s2 c)) (show ((l.L.length : Int) - ((k + 1 : Nat) : Int)).toNat < (m.I - i.I).toNat by omega)
  · cases h
theorem ok88 (n : Nat) : FnOK C (n + 3) 88 (mkF s88 G88) := by
  refine fn_ofS hC (sp := sp88) (lp := lp88) (sw := sw88) ⟨ok86 n, trivial⟩ trivial (by kernel_rfl) [2] (by kernel_rfl) (by kernel_rfl) (fun k hk L hL => by simp at hk; subst hk; cases hL; exact ok88_2 n) fun ds rr h => ?_
  unfold G88 at h
  split at h
  · rename_i l
    obtain ⟨hp, h⟩ := need_some h
    rw [yes_iff] at hp
    refine (congrArg T.run (t88 l)).trans ?_
    rw [← h]
    simp only [Int.toNat_zero, Nat.sub_zero]
    refine go_yes ⟨hp, trivial, by omega, by omega⟩ (go_if (fun c => rfl) fun c => ?_)
    rw [firstFrom_neg (by omega)]
  · cases h
theorem ok85 (n : Nat) : FnOK C (n + 4) 85 (mkF s85 G85) := by
  refine fn_ofS hC (sp := sp85) (lp := lp85) (sw := sw85) ⟨ok88 n, ok86 (n + 1), trivial⟩ trivial (by kernel_rfl) [] (by kernel_rfl) rfl (fun k hk => by cases hk) fun ds rr h => ?_
  unfold G85 at h
  split at h
  · rename_i l
    obtain ⟨hp, h⟩ := need_some h
    rw [yes_iff] at hp
    refine (congrArg T.run (t85 l)).trans ?_
    rw [← h]
    refine go_yes hp ?_
    rw [firstFrom_all]
    simp only [Bool.not_not]
    rfl
  · cases h
theorem ok71 (n : Nat) : FnOK C (n + 5) 71 (mkF s71 G71) := by
  have hb := big_eq
  refine fn_ofS hC (sp := sp71) (lp := lp71) (sw := sw71) ⟨ok48 (n + 3), ok85 n, trivial⟩ trivial (by kernel_rfl) [] (by kernel_rfl) rfl (fun k hk => by cases hk) fun ds rr hh => ?_
  unfold G71 at hh
  split at hh
  · rename_i a b c d e f g h
    refine (congrArg T.run (t71 a b c d e f g h)).trans ?_
    rw [← hh, wayB_mk]
    simp only [within_dec]
    refine go_not (fun c1 => ?_) fun c1 => go_not (fun c2 => ?_) fun c2 => go_not (fun c3 => ?_) fun c3 => go_not (fun c4 => ?_) fun c4 => go_not (fun c5 => ?_) fun c5 => go_not (fun c6 => ?_) fun c6 => go_if (fun c7 => by rw [decide_eq_false (by omega)]; rfl) fun c7 => ?_
    · have c1 := of_decide_eq_false c1
      rw [decide_eq_false (by omega)]; rfl
    · have c2 := of_decide_eq_false c2
      rw [decide_eq_false (by omega)]; rfl
    · have c3 := of_decide_eq_false c3
      rw [decide_eq_false (by omega)]; rfl
    · have c4 := of_decide_eq_false c4
      rw [decide_eq_false (by omega)]; rfl
    · have c5 := of_decide_eq_false c5
      rw [decide_eq_false (by omega)]; rfl
    · have c6 := of_decide_eq_false c6
      rw [decide_eq_false (by omega)]; rfl
    · have c1 := of_decide_eq_true c1
      have c2 := of_decide_eq_true c2
      have c3 := of_decide_eq_true c3
      have c4 := of_decide_eq_true c4
      have c5 := of_decide_eq_true c5
      have c6 := of_decide_eq_true c6
      rw [decide_eq_true (by omega), Bool.true_and]
      refine go_true rfl ?_
      cases he : e.B with
      | true => exact go_true rfl rfl
      | false =>
        refine go_false rfl (go_true rfl (go_ite (fun k1 => ?_) fun k1 => go_ite (fun k2 => ?_) fun k2 => go_false rfl (go_yes (by omega) ?_)))
        · rw [decide_eq_false fun h => bne_t k1 h.1]; rfl
        · rw [decide_eq_false fun h => bne_t k2 h.2]; rfl
        · rw [decide_eq_true ⟨bne_f k1, bne_f k2⟩, Bool.not_not]; rfl
  · cases hh
theorem ok1071 (n : Nat) : FnOK C (n + 5) 71 (mkF s1071 G1071) := by
  have hb := big_eq
  refine fn_ofS hC (sp := sp1071) (lp := lp1071) (sw := sw1071) ⟨ok48 (n + 3), ok85 n, trivial⟩ trivial (by kernel_rfl) [] (by kernel_rfl) rfl (fun k hk => by cases hk) fun ds rr hh => ?_
  unfold G1071 at hh
  split at hh
  · rename_i a b c d e f g h q1 q2 q3 p q5 q6 q7 q8
    refine (congrArg T.run (t1071 a b c d e f g h q1 q2 q3 p q5 q6 q7 q8)).trans ?_
    rw [← hh, wayB_mk]
    simp only [within_dec]
    refine go_not (fun c1 => ?_) fun c1 => go_not (fun c2 => ?_) fun c2 => go_not (fun c3 => ?_) fun c3 => go_not (fun c4 => ?_) fun c4 => go_not (fun c5 => ?_) fun c5 => go_not (fun c6 => ?_) fun c6 => go_if (fun c7 => by rw [decide_eq_false (by omega)]; rfl) fun c7 => ?_
    · have c1 := of_decide_eq_false c1
      rw [decide_eq_false (by omega)]; rfl
    · have c2 := of_decide_eq_false c2
      rw [decide_eq_false (by omega)]; rfl
    · have c3 := of_decide_eq_false c3
      rw [decide_eq_false (by omega)]; rfl
    · have c4 := of_decide_eq_false c4
      rw [decide_eq_false (by omega)]; rfl
    · have c5 := of_decide_eq_false c5
      rw [decide_eq_false (by omega)]; rfl
    · have c6 := of_decide_eq_false c6
      rw [decide_eq_false (by omega)]; rfl
    · have c1 := of_decide_eq_true c1
      have c2 := of_decide_eq_true c2
      have c3 := of_decide_eq_true c3
      have c4 := of_decide_eq_true c4
      have c5 := of_decide_eq_true c5
      have c6 := of_decide_eq_true c6
      rw [decide_eq_true (by omega), Bool.true_and]
      refine go_false rfl ?_
      cases he : e.B with
      | true =>
        refine go_false rfl (go_yes (by omega) ?_)
        rw [Bool.not_not]; rfl
      | false =>
        refine go_true rfl (go_ite (fun k1 => ?_) fun k1 => go_ite (fun k2 => ?_) fun k2 => go_true rfl (go_ite (fun k3 => ?_) fun k3 => go_yes (by omega) ?_))
        · rw [decide_eq_false fun h => bne_t k1 h.1]; rfl
        · rw [decide_eq_false fun h => bne_t k2 h.2]; rfl
        · rw [decide_eq_true ⟨bne_f k1, bne_f k2⟩, decide_eq_false (bne_t k3)]; rfl
        · rw [decide_eq_true ⟨bne_f k1, bne_f k2⟩, decide_eq_true (bne_f k3), Bool.not_not]; rfl
  · cases hh
def mu41 : List D → Nat
  | [_, _, m, i, _, _, _] => (m.I - i.I).toNat
  | [_, _, _, _, _, _, _, _, _, _, m, i, _, _, _] => (m.I - i.I).toNat
  | _ => 0
theorem ok41_5 (n : Nat) : LoopSim C (n + 5) 41 (loopOf C.P 41 5) (mkL l41_5 G41_5) := by
  refine loop_ofK hC (sp := sp41) (lp := lp41) (sw := sw41) ⟨ok48 (n + 4), fn_two (ok71 n) (ok1071 n), trivial⟩ trivial 0 [] (by kernel_rfl) rfl (fun k hk => by cases hk) (by kernel_rfl) mu41 fun ds rr hh => ?_
  unfold G41_5 at hh
  split at hh
  · rename_i j w m i x y w'
    obtain ⟨hp, hh⟩ := need_some hh
    rw [yes_iff] at hp
    obtain ⟨hj, hw, hl, hm, hi⟩ := hp
    refine ⟨by rw [fuelC]; show (m.I - i.I).toNat < _; omega, ?_⟩
    rw [roundTK_head (j := j) (n := 0) hj (by decide), show roundTK C (mkTab sp41 lp41 sw41) 41 (loopOf C.P 41 5) 0 l41_5 [.i 0, w, m, i, x, y, w'] = _ from t41_5_0 w m i x y w']
    simp only [hi, hm, hw, Int.toNat_zero, Nat.reduceAdd, ix_def, bx_def, lx_def, wayL_mk] at hh ⊢
    refine rd_if (fun hlt => ?_) fun hge => ?_
    · have hkl : 0 < w.L.length := by omega
      rw [show w.L.length = w.L.length - 0 by omega] at hh
      obtain ⟨s1, s2⟩ := all_step hh hkl
      refine rd_dec (by omega) (rd_not (fun c => rd_out (s1 ?_)) fun c => rd_dec (by omega) ?_)
      · exact c
      · have hw1 : IntKind.i64.wrap (0 + 1) = ((0 + 1 : Nat) : Int) := by rw [wrap_id (by omega) (by omega)]; rfl
        rw [hw1]
        exact rd_again ((need_yes ⟨rfl, rfl, hl, rfl, by simp only [I_i]; omega, by simp only [I_i, L_l]; omega, rfl⟩).trans (s2 c)) (show ((w.L.length : Int) - ((0 + 1 : Nat) : Int)).toNat < (m.I - i.I).toNat by omega)
    · rw [show w.L.length = 0 by omega] at hh
      exact rd_out hh
  · rename_i j g1 g2 g3 g g5 g6 g7 g8 w m i x y w'
    obtain ⟨hp, hh⟩ := need_some hh
    rw [yes_iff] at hp
    obtain ⟨hj, hw, hl, hm, hi0, hi1, hg⟩ := hp
    refine ⟨by rw [fuelC]; show (m.I - i.I).toNat < _; omega, ?_⟩
    rw [roundTK_head (j := j) (n := 1) hj (by decide), show roundTK C (mkTab sp41 lp41 sw41) 41 (loopOf C.P 41 5) 0 l41_5 [.i 1, g1, g2, g3, g, g5, g6, g7, g8, w, m, i, x, y, w'] = _ from t41_5_1 g1 g2 g3 g g5 g6 g7 g8 w m i x y w']
    obtain ⟨k, hk⟩ : ∃ k : Nat, i.I = ((k + 1 : Nat) : Int) := ⟨i.I.toNat - 1, by omega⟩
    have hi1' : k + 1 ≤ w.L.length := by omega
    simp only [hk, hm, hw, hg, Int.toNat_natCast, Nat.reduceAdd, Nat.add_sub_cancel, ix_def, bx_def, lx_def, wayL_mk] at hh ⊢
    refine rd_if (fun hlt => ?_) fun hge => ?_
    · have hkl : k + 1 < w.L.length := by omega
      obtain ⟨s1, s2⟩ := all_step hh hkl
      refine rd_dec (by omega) (rd_not (fun c => rd_out (s1 ?_)) fun c => rd_dec (by omega) ?_)
      · exact c
      · rw [wrap_succ (by omega)]
        exact rd_again ((need_yes ⟨rfl, rfl, hl, rfl, by simp only [I_i]; omega, by simp only [I_i, L_l]; omega, rfl⟩).trans (s2 c)) (show ((w.L.length : Int) - ((k + 1 + 1 : Nat) : Int)).toNat < (m.I - i.I).toNat by omega)
    · rw [show w.L.length - (k + 1) = 0 by omega] at hh
      exact rd_out hh
  · cases hh
theorem ok41 (n : Nat) : FnOK C (n + 6) 41 (mkF s41 G41) := by
  refine fn_ofS hC (sp := sp41) (lp := lp41) (sw := sw41) ⟨ok48 (n + 4), fn_two (ok71 n) (ok1071 n), trivial⟩ trivial (by kernel_rfl) [5] (by kernel_rfl) (by kernel_rfl) (fun k hk L hL => by simp at hk; subst hk; cases hL; exact ok41_5 n) fun ds rr h => ?_
  unfold G41 at h
  split at h
  · rename_i c f w
    refine (congrArg T.run (t41 c f w)).trans ?_
    rw [← h]
    have hH : ∀ b : Bool, planH c.I f.I w.L = b → planB c.I f.I w.L = (b && allFrom (wayL w.L) 0 w.L.length) := fun b e => by unfold planB; rw [e]
    have f1 : ¬ ((1 ≤ c.I ∧ c.I ≤ 200) ∧ (1 ≤ w.L.length ∧ w.L.length ≤ 60) ∧ 0 ≤ f.I ∧ f.I ≤ 100000) → planB c.I f.I w.L = false := fun h => hH false (decide_eq_false h)
    simp only [within_dec]
    refine go_not (fun c1 => ?_) fun c1 => go_not (fun c2 => ?_) fun c2 => go_not (fun c3 => ?_) fun c3 => ?_
    · have c1 := of_decide_eq_false c1
      rw [f1 (by omega)]; rfl
    · have c2 := of_decide_eq_false c2
      rw [f1 (by omega)]; rfl
    · have c3 := of_decide_eq_false c3
      rw [f1 (by omega)]; rfl
    · have c1 := of_decide_eq_true c1
      have c2 := of_decide_eq_true c2
      have c3 := of_decide_eq_true c3
      rw [hH true (decide_eq_true (by omega)), Bool.true_and]
      exact go_yes ⟨trivial, trivial, by omega, trivial, trivial⟩ (go_ite (fun c => by rw [c]; rfl) fun c => by rw [c]; rfl)
  · cases h
theorem way_of {c f : Int} {w : List (List D)} (h : planB c f w = true) {k : Nat} (hk : k < w.length) : wayC (w.getD k []) = true ∧ hours (lx (w.getD k []) 7) = true := by
  unfold planB at h
  rw [Bool.and_eq_true, allFrom_iff] at h
  have := h.2 k (Nat.zero_le _) (by omega)
  unfold wayL wayB at this
  rw [Bool.and_eq_true, Bool.and_eq_true] at this
  exact ⟨this.1, this.2.2⟩
theorem plan_of {c f : Int} {w : List (List D)} (h : planB c f w = true) : (1 ≤ c ∧ c ≤ 200) ∧ (1 ≤ w.length ∧ w.length ≤ 60) ∧ 0 ≤ f ∧ f ≤ 100000 := by
  unfold planB planH at h
  rw [Bool.and_eq_true, decide_eq_true_iff] at h
  exact h.1
theorem wayC_of {c : List D} (h : wayC c = true) : (1 ≤ ix c 0 ∧ ix c 0 ≤ 1000) ∧ (0 ≤ ix c 1 ∧ ix c 1 ≤ 600) ∧ (0 ≤ ix c 2 ∧ ix c 2 ≤ 600) ∧ (1 ≤ ix c 3 ∧ ix c 3 ≤ 60) ∧ (0 ≤ ix c 5 ∧ ix c 5 ≤ ix c 6) ∧ ix c 6 ≤ 1000 ∧ (lx c 7).length ≤ 10 := of_decide_eq_true h
theorem span_of {c f : Int} {w : List (List D)} (h : planB c f w = true) {k : Nat} (hk : k < w.length) : 0 ≤ spanF c (w.getD k []) ∧ spanF c (w.getD k []) ≤ 12000 := by
  have h1 := (plan_of h).1
  have h2 := (wayC_of (way_of h hk).1).2.2.2.1
  unfold spanF
  constructor
  · exact Int.mul_nonneg (by omega) (by omega)
  · have := Int.mul_le_mul (show c - 1 ≤ 200 by omega) (show ix (w.getD k []) 3 ≤ 60 by omega) (by omega) (by omega)
    omega
theorem ok73 (n : Nat) : FnOK C (n + 1) 73 (mkF s73 G73) := by
  refine fn_ofS hC (sp := sp73) (lp := lp73) (sw := sw73) trivial trivial (by kernel_rfl) [] (by kernel_rfl) rfl (fun k hk => by cases hk) fun ds rr h => ?_
  unfold G73 at h
  split at h
  · rename_i c f w j
    obtain ⟨hp, h⟩ := need_some h
    rw [yes_iff] at hp
    refine (congrArg T.run (t73 c f w j)).trans (go_dec ⟨hp.2.1, hp.2.2⟩ ?_)
    rw [← h]
    have h1 := plan_of hp.1
    have h2 := span_of hp.1 (k := j.I.toNat) (by omega)
    have h3 := wayC_of (way_of hp.1 (k := j.I.toNat) (by omega)).1
    unfold busyF
    unfold spanF at h2 ⊢
    simp only [Nat.reduceAdd, ix_def]
    rw [wrap_id (x := c.I - 1) (by omega) (by omega), wrap_id (x := (c.I - 1) * ix (w.L.getD j.I.toNat []) 3) (by omega) (by omega), wrap_id (x := (c.I - 1) * ix (w.L.getD j.I.toNat []) 3 + ix (w.L.getD j.I.toNat []) 0) (by omega) (by omega), wrap_id (by omega) (by omega)]
  · cases h
end Go.Proofs.Ytipbcpobnciccaa
namespace Go.Proofs.Ytipbcpobnciccaa
open Go.Lite
set_option maxRecDepth 100000
noncomputable section
def winF (w ch : List (List D)) (j : Nat) : List D := (lx (w.getD j []) 7).getD (rg ch j).toNat []
def fromF (w ch : List (List D)) (j : Nat) : Int := if 0 ≤ rg ch j then ix (winF w ch j) 0 else 0
def leW (c : Int) (w : List (List D)) (j : Nat) : Int := if j + 1 < w.length ∧ bx (w.getD (j + 1) []) 4 = true then ix (w.getD j []) 0 + spanF c (w.getD j []) + ix (w.getD (j + 1) []) 5 else ix (w.getD j []) 0
def moW (c : Int) (w : List (List D)) (j : Nat) : Int := if j + 1 < w.length ∧ bx (w.getD (j + 1) []) 4 = true then ix (w.getD j []) 0 + spanF c (w.getD j []) + ix (w.getD (j + 1) []) 6 else ix (w.getD j []) 0
def lk3 (a b x : Int) : List D := [.i a, .i b, .i x]
def afterL (c : Int) (w : List (List D)) (j : Nat) : List (List D) := [lk3 ((j : Int) + 1) ((j : Int) + 2) (leW c w j), lk3 ((j : Int) + 2) ((j : Int) + 1) (-(moW c w j))]
def closL (u : Bool) (c : Int) (w ch : List (List D)) (j : Nat) : List (List D) :=
  if 0 ≤ rg ch j then lk3 0 ((j : Int) + 1) (ix (w.getD j []) 1 + ix (winF w ch j) 0) :: (if u then [lk3 ((j : Int) + 1) 0 (busyF c (w.getD j []) - ix (winF w ch j) 1)] else []) else [lk3 0 ((j : Int) + 1) (ix (w.getD j []) 1)]
def linkJ (u : Bool) (c : Int) (w ch : List (List D)) (j : Nat) : List (List D) := afterL c w j ++ closL u c w ch j
def linksF (u : Bool) (c : Int) (w ch : List (List D)) : Nat → Nat → List (List D)
  | _, 0 => []
  | j, k + 1 => linkJ u c w ch j ++ linksF u c w ch (j + 1) k
def linksP (u : Bool) (c f : Int) (w ch : List (List D)) : List (List D) := lk3 0 1 f :: linksF u c w ch 0 w.length
def nP (w : List (List D)) : Int := (w.length : Int) + 2
def chOK (w ch : List (List D)) : Prop := ch.length = w.length ∧ ∀ j, j < w.length → if (lx (w.getD j []) 7).length = 0 then rg ch j = -1 else 0 ≤ rg ch j ∧ rg ch j < (lx (w.getD j []) 7).length
def limJ (c : Int) (w ch : List (List D)) (j : Nat) : Bool := decide (0 ≤ rg ch j → ix (w.getD j []) 1 + busyF c (w.getD j []) ≤ ix (winF w ch j) 2)
def limB (c : Int) (w ch : List (List D)) : Bool := allFrom (limJ c w ch) 0 w.length
def pushP (u : Bool) (c f : Int) (w ch : List (List D)) : RSt := pushR (nP w) (allL (nP w) (linksP u c f w ch)) (zeros (nP w))
def dueL (c f : Int) (w ch : List (List D)) : List (List D) := (pushP false c f w ch).1.drop 1
def duesOk (c f : Int) (w ch : List (List D)) : Bool := limB c w ch && decide ((pushP true c f w ch).2.2 < 0)
end
def canon (t : List (List D)) : Prop := ∀ j, j < t.length → t.getD j [] = [.i (rg t j)]
theorem canon_rs {t : List (List D)} (h : canon t) (j : Nat) (v : Int) : canon (rs t j v) := by
  intro i hi
  rw [len_rs] at hi
  by_cases e : i = j
  · subst e
    rw [rg_rs hi, if_pos rfl]
    unfold rs
    rw [List.getD_eq_getElem?_getD, List.getElem?_set_self hi]
    rfl
  · have h1 : (rs t j v).getD i [] = t.getD i [] := by
      unfold rs
      rw [List.getD_eq_getElem?_getD, List.getD_eq_getElem?_getD, List.getElem?_set_ne (fun h => e h.symm)]
    have h2 : rg (rs t j v) i = rg t i := by unfold rg; rw [h1]
    rw [h1, h2]
    exact h i hi
theorem canon_rep (n : Nat) (v : Int) : canon (List.replicate n [.i v]) := by
  intro j hj
  rw [List.length_replicate] at hj
  rw [rg_rep hj, List.getD_eq_getElem?_getD, List.getElem?_replicate, if_pos hj]
  rfl
theorem canon_drop {t : List (List D)} (h : canon t) (k : Nat) : canon (t.drop k) := by
  intro j hj
  rw [List.length_drop] at hj
  have e : (t.drop k).getD j [] = t.getD (k + j) [] := by rw [List.getD_eq_getElem?_getD, List.getD_eq_getElem?_getD, List.getElem?_drop]
  have e2 : rg (t.drop k) j = rg t (k + j) := by unfold rg; rw [e]
  rw [e, e2]
  exact h (k + j) (by omega)
theorem rg_drop (t : List (List D)) (k j : Nat) : rg (t.drop k) j = rg t (k + j) := by
  unfold rg
  rw [List.getD_eq_getElem?_getD, List.getD_eq_getElem?_getD, List.getElem?_drop]
theorem canon_ext {a b : List (List D)} (ha : canon a) (hb : canon b) (hl : a.length = b.length) (h : ∀ j, j < a.length → rg a j = rg b j) : a = b := by
  apply List.ext_getElem hl
  intro j h1 h2
  have e1 := ha j h1
  have e2 := hb j h2
  rw [List.getD_eq_getElem?_getD, List.getElem?_eq_getElem h1] at e1
  rw [List.getD_eq_getElem?_getD, List.getElem?_eq_getElem h2] at e2
  simp only [Option.getD_some] at e1 e2
  rw [e1, e2, h j h1]
theorem canon_step {l : List (List D)} (i : Nat) {s : RSt} (h : canon s.1) : canon (stepR l i s).1 := by
  unfold stepR
  split
  · exact canon_rs h _ _
  · exact h
theorem canon_pass {l : List (List D)} : ∀ (k i : Nat) {s : RSt}, canon s.1 → canon (passR l i k s).1
  | 0, _, _, h => h
  | k + 1, i, _, h => canon_pass k (i + 1) (canon_step i h)
theorem canon_rounds {l : List (List D)} : ∀ (k : Nat) {s : RSt}, canon s.1 → canon (roundsR l k s).1
  | 0, _, h => h
  | k + 1, s, h => by
    have h1 := canon_pass (l := l) l.length 0 (s := (s.1, s.2.1, -1)) h
    simp only [roundsR]
    split
    · exact h1
    · exact canon_rounds k h1
theorem canon_push (n : Int) (l : List (List D)) : canon (pushR n l (zeros n)).1 := canon_rounds _ (canon_rep _ _)
theorem kept_mem {n : Int} {l : List (List D)} {p : Nat → Int} : (netN n l).kept p ↔ ∀ c ∈ l, p (ix c 0).toNat + ix c 2 ≤ p (ix c 1).toNat := by
  constructor
  · intro h c hc
    obtain ⟨i, hi, rfl⟩ := List.getElem_of_mem hc
    have := h i hi
    simp only [netN, lkF, lkT, lkW] at this
    rw [List.getD_eq_getElem?_getD, List.getElem?_eq_getElem hi] at this
    exact this
  · intro h i hi
    have hi' : i < l.length := hi
    have := h l[i] (List.getElem_mem hi')
    simp only [netN, lkF, lkT, lkW]
    rw [List.getD_eq_getElem?_getD, List.getElem?_eq_getElem hi']
    exact this
theorem mem_extraF {c : List D} : ∀ (k i : Nat), c ∈ extraF i k ↔ ∃ j, i ≤ j ∧ j < i + k ∧ c = [.i 0, .i (j : Int), .i 0]
  | 0, i => by
    simp only [extraF, List.not_mem_nil, false_iff]
    rintro ⟨j, h1, h2, -⟩
    omega
  | k + 1, i => by
    simp only [extraF, List.mem_cons, mem_extraF k (i + 1)]
    constructor
    · rintro (h | ⟨j, h1, h2, h3⟩)
      · exact ⟨i, Nat.le_refl _, by omega, h⟩
      · exact ⟨j, by omega, by omega, h3⟩
    · rintro ⟨j, h1, h2, h3⟩
      by_cases e : j = i
      · subst e; exact .inl h3
      · exact .inr ⟨j, by omega, by omega, h3⟩
theorem mem_linksF {u : Bool} {c : Int} {w ch : List (List D)} {x : List D} : ∀ (k i : Nat), x ∈ linksF u c w ch i k ↔ ∃ j, i ≤ j ∧ j < i + k ∧ x ∈ linkJ u c w ch j
  | 0, i => by
    simp only [linksF, List.not_mem_nil, false_iff]
    rintro ⟨j, h1, h2, -⟩
    omega
  | k + 1, i => by
    simp only [linksF, List.mem_append, mem_linksF k (i + 1)]
    constructor
    · rintro (h | ⟨j, h1, h2, h3⟩)
      · exact ⟨i, Nat.le_refl _, by omega, h⟩
      · exact ⟨j, by omega, by omega, h3⟩
    · rintro ⟨j, h1, h2, h3⟩
      by_cases e : j = i
      · subst e; exact .inl h3
      · exact .inr ⟨j, by omega, by omega, h3⟩
def keptJ (u : Bool) (c : Int) (w ch : List (List D)) (p : Nat → Int) (j : Nat) : Prop :=
  p (j + 1) + leW c w j ≤ p (j + 2) ∧ p (j + 2) - moW c w j ≤ p (j + 1) ∧ p 0 + (ix (w.getD j []) 1 + fromF w ch j) ≤ p (j + 1) ∧ (u = true → 0 ≤ rg ch j → p (j + 1) + (busyF c (w.getD j []) - ix (winF w ch j) 1) ≤ p 0)
theorem keptJ_iff {u : Bool} {c : Int} {w ch : List (List D)} {p : Nat → Int} {j : Nat} : (∀ x ∈ linkJ u c w ch j, p (ix x 0).toNat + ix x 2 ≤ p (ix x 1).toNat) ↔ keptJ u c w ch p j := by
  have e1 : ((j : Int) + 1).toNat = j + 1 := by omega
  have e2 : ((j : Int) + 2).toNat = j + 2 := by omega
  have g0 : ∀ a b x : Int, ix (lk3 a b x) 0 = a := fun _ _ _ => rfl
  have g1 : ∀ a b x : Int, ix (lk3 a b x) 1 = b := fun _ _ _ => rfl
  have g2 : ∀ a b x : Int, ix (lk3 a b x) 2 = x := fun _ _ _ => rfl
  unfold linkJ afterL closL keptJ fromF
  by_cases hc : 0 ≤ rg ch j
  · cases u with
    | true =>
      simp only [if_pos hc, if_true, List.mem_append, List.mem_cons, List.not_mem_nil, or_false]
      constructor
      · intro h
        have h1 := h _ (.inl (.inl rfl))
        have h2 := h _ (.inl (.inr rfl))
        have h3 := h _ (.inr (.inl rfl))
        have h4 := h _ (.inr (.inr rfl))
        simp only [g0, g1, g2, e1, e2, Int.toNat_zero] at h1 h2 h3 h4
        exact ⟨h1, by omega, by omega, fun _ _ => h4⟩
      · rintro ⟨h1, h2, h3, h4⟩ x ((rfl | rfl) | (rfl | rfl)) <;> simp only [g0, g1, g2, e1, e2, Int.toNat_zero]
        · exact h1
        · omega
        · omega
        · exact h4 (by trivial) hc
    | false =>
      simp only [if_pos hc, Bool.false_eq_true, if_false, List.mem_append, List.mem_cons, List.not_mem_nil, or_false, false_implies, and_true]
      constructor
      · intro h
        have h1 := h _ (.inl (.inl rfl))
        have h2 := h _ (.inl (.inr rfl))
        have h3 := h _ (.inr rfl)
        simp only [g0, g1, g2, e1, e2, Int.toNat_zero] at h1 h2 h3
        exact ⟨h1, by omega, by omega⟩
      · rintro ⟨h1, h2, h3⟩ x ((rfl | rfl) | rfl) <;> simp only [g0, g1, g2, e1, e2, Int.toNat_zero]
        · exact h1
        · omega
        · omega
  · simp only [if_neg hc, List.mem_append, List.mem_cons, List.not_mem_nil, or_false]
    constructor
    · intro h
      have h1 := h _ (.inl (.inl rfl))
      have h2 := h _ (.inl (.inr rfl))
      have h3 := h _ (.inr rfl)
      simp only [g0, g1, g2, e1, e2, Int.toNat_zero] at h1 h2 h3
      exact ⟨h1, by omega, by omega, fun _ h => absurd h hc⟩
    · rintro ⟨h1, h2, h3, -⟩ x ((rfl | rfl) | rfl) <;> simp only [g0, g1, g2, e1, e2, Int.toNat_zero]
      · exact h1
      · omega
      · omega
theorem kept_plan {u : Bool} {c f : Int} {w ch : List (List D)} {p : Nat → Int} : (netN (nP w) (allL (nP w) (linksP u c f w ch))).kept p ↔ p 0 + f ≤ p 1 ∧ (∀ j, j < w.length → keptJ u c w ch p j) ∧ ∀ j, j < w.length + 2 → p 0 ≤ p j := by
  have g : ∀ a b x : Int, ix (lk3 a b x) 0 = a ∧ ix (lk3 a b x) 1 = b ∧ ix (lk3 a b x) 2 = x := fun _ _ _ => ⟨rfl, rfl, rfl⟩
  have hn : (nP w).toNat = w.length + 2 := by unfold nP; omega
  rw [kept_mem]
  unfold allL linksP
  rw [hn]
  simp only [List.mem_append, List.mem_cons]
  constructor
  · intro h
    refine ⟨?_, fun j hj => keptJ_iff.1 fun x hx => h x (.inl (.inr ((mem_linksF _ _).2 ⟨j, Nat.zero_le _, by omega, hx⟩))), fun j hj => ?_⟩
    · have := h _ (.inl (.inl rfl))
      rw [(g 0 1 f).1, (g 0 1 f).2.1, (g 0 1 f).2.2] at this
      exact this
    · have := h _ (.inr ((mem_extraF _ _).2 ⟨j, Nat.zero_le _, by omega, rfl⟩))
      simp only [ix, List.getD_cons_zero, List.getD_cons_succ, D.I, Int.toNat_zero, Int.toNat_natCast] at this
      omega
  · rintro ⟨h1, h2, h3⟩ x ((rfl | hx) | hx)
    · rw [(g 0 1 f).1, (g 0 1 f).2.1, (g 0 1 f).2.2]
      exact h1
    · obtain ⟨j, -, hj, hx⟩ := (mem_linksF _ _).1 hx
      exact keptJ_iff.2 (h2 j (by omega)) x hx
    · obtain ⟨j, -, hj, rfl⟩ := (mem_extraF _ _).1 hx
      have := h3 j (by omega)
      simp only [ix, List.getD_cons_zero, List.getD_cons_succ, D.I, Int.toNat_zero, Int.toNat_natCast]
      omega
end Go.Proofs.Ytipbcpobnciccaa
namespace Go.Proofs.Ytipbcpobnciccaa
open Go.Lite
def s106 : Sig := ⟨[.k (.int .i64)], [(.k (.int .i64), [])]⟩
def s105 : SigW := ⟨[.sl 0 3], [.row [.int .i64, .int .i64, .int .i64]], [(.sl 0 3, [.row [.int .i64, .int .i64, .int .i64]])]⟩
def s104 : Sig := ⟨[.agg [.k (.int .i64)], .agg [.k (.int .i64), .k (.int .i64), .k (.ro [.int .i64, .int .i64, .int .i64, .int .i64, .bool, .int .i64, .int .i64, .ro [.int .i64, .int .i64, .int .i64]])]], [(.sl 0 3, [.row [.int .i64, .int .i64, .int .i64]])]⟩
def s107 : Sig := ⟨[.agg [.k (.int .i64)], .agg [.k (.int .i64), .k (.int .i64), .k (.ro [.int .i64, .int .i64, .int .i64, .int .i64, .bool, .int .i64, .int .i64, .ro [.int .i64, .int .i64, .int .i64]])]], [(.sl 0 3, [.row [.int .i64, .int .i64, .int .i64]])]⟩
def s108 : Sig := ⟨[.agg [.k (.int .i64), .k (.opt [.int .i64, .int .i64, .int .i64])], .agg [.k (.int .i64), .k (.int .i64), .k (.ro [.int .i64, .int .i64, .int .i64, .int .i64, .bool, .int .i64, .int .i64, .ro [.int .i64, .int .i64, .int .i64]])]], [(.sl 0 3, [.row [.int .i64, .int .i64, .int .i64]]), (.pan 105, [])]⟩
def s79 : SigW := ⟨[.agg [.k (.int .i64), .k (.int .i64), .k (.ro [.int .i64, .int .i64, .int .i64, .int .i64, .bool, .int .i64, .int .i64, .ro [.int .i64, .int .i64, .int .i64]])], .k (.ro [.int .i64])], [], [(.sl 0 1, [.row [.alt (KA.cons 118 [.int .i64] (KA.cons 120 [.int .i64] (KA.cons 123 [.int .i64, .opt [.int .i64, .int .i64, .int .i64]] KA.nil)))]])]⟩
def l79_3 : LSig := mkLS [1, 5, 15, 16, 17] [(51, [(1, .k (.ro [.int .i64])), (5, .sl 0 1), (15, .k (.ro [.int .i64, .int .i64, .int .i64, .int .i64, .bool, .int .i64, .int .i64, .ro [.int .i64, .int .i64, .int .i64]])), (16, .k (.int .i64)), (17, .k (.int .i64))], [.row [.alt (KA.cons 118 [.int .i64] (KA.cons 120 [.int .i64] (KA.cons 123 [.int .i64, .opt [.int .i64, .int .i64, .int .i64]] KA.nil)))]])] [(.exit 0, [5], [(51, [(5, .sl 0 1)], [.row [.alt (KA.cons 118 [.int .i64] (KA.cons 120 [.int .i64] (KA.cons 123 [.int .i64, .opt [.int .i64, .int .i64, .int .i64]] KA.nil)))]])])]
end Go.Proofs.Ytipbcpobnciccaa
namespace Go.Proofs.Ytipbcpobnciccaa
open Go.Lite
noncomputable section
def G106 (ds : List D) : T (List D) := match ds with
  | [k] => .need (yes (0 ≤ k.I ∧ k.I ≤ 1000)) (.leaf [.i (k.I + 1)])
  | _ => .fail
def G105 (ds : List D) : T (List D) := match ds with
  | [n, r] => .need (yes (0 ≤ n.I)) (.leaf [.i n.I, .l r.L])
  | _ => .fail
def G104 (ds : List D) : T (List D) := match ds with
  | [a, _, _, _] => .leaf [.i 1, .l [lk3 0 1 a.I]]
  | _ => .fail
def G107 (ds : List D) : T (List D) := match ds with
  | [k, c, f, w] => .need (yes (planB c.I f.I w.L = true ∧ 1 ≤ k.I ∧ k.I ≤ w.L.length)) (.leaf [.i 2, .l (afterL c.I w.L (k.I - 1).toNat)])
  | _ => .fail
def winOk (o : List (List D)) : Prop := o.isEmpty = false → hourB o 0 = true
def G108 (ds : List D) : T (List D) := match ds with
  | [j, o, c, f, w] => .need (yes (planB c.I f.I w.L = true ∧ 0 ≤ j.I ∧ j.I < w.L.length ∧ winOk o.L))
      (.ite o.L.isEmpty (.leaf [.i 0, .i 1, .l [lk3 0 (j.I + 1) (ix (w.L.getD j.I.toNat []) 1)]])
        (.ite (decide (ix (w.L.getD j.I.toNat []) 1 + busyF c.I (w.L.getD j.I.toNat []) > ix (o.L.getD 0 []) 2)) (.leaf [.i 1])
          (.leaf [.i 0, .i 2, .l [lk3 0 (j.I + 1) (ix (w.L.getD j.I.toNat []) 1 + ix (o.L.getD 0 []) 0), lk3 (j.I + 1) 0 (busyF c.I (w.L.getD j.I.toNat []) - ix (o.L.getD 0 []) 1)]])))
  | _ => .fail
def optF (w ch : List (List D)) (j : Nat) : List (List D) := if 0 ≤ rg ch j then [lk3 (ix (winF w ch j) 0) (ix (winF w ch j) 1) (ix (winF w ch j) 2)] else []
def begE (f : Int) : List D := [.l [[.i 0, .i f]]]
def aftE (j : Nat) : List D := [.l [[.i 1, .i ((j : Int) + 1)]]]
def cloE (w ch : List (List D)) (j : Nat) : List D := [.l [[.i 2, .i (j : Int), .l (optF w ch j)]]]
def rulesF (w ch : List (List D)) : Nat → Nat → List (List D)
  | _, 0 => []
  | j, k + 1 => aftE j :: cloE w ch j :: rulesF w ch (j + 1) k
def rulesP (f : Int) (w ch : List (List D)) : List (List D) := begE f :: rulesF w ch 0 w.length
def G79 (ds : List D) : T (List D) := match ds with
  | [c, f, w, ch] => .need (yes (planB c.I f.I w.L = true ∧ chOK w.L ch.L)) (.leaf [.i (rulesP f.I w.L ch.L).length, .l (rulesP f.I w.L ch.L)])
  | _ => .fail
def G79_3 (ds : List D) : T (Ex × List D) := match ds with
  | [ch, n, w, m, i, r] => .need (yes (chOK w.L ch.L ∧ w.L.length ≤ 60 ∧ (∀ j, j < w.L.length → (lx (w.L.getD j []) 7).length ≤ 10) ∧ m.I = w.L.length ∧ 0 ≤ i.I ∧ i.I ≤ w.L.length ∧ n.I = r.L.length ∧ 0 < r.L.length ∧ r.L.length ≤ 2 * i.I + 1))
      (.leaf (.exit 0, [.i (r.L ++ rulesF w.L ch.L i.I.toNat (w.L.length - i.I.toNat)).length, .l (r.L ++ rulesF w.L ch.L i.I.toNat (w.L.length - i.I.toNat))]))
  | _ => .fail
end
end Go.Proofs.Ytipbcpobnciccaa
namespace Go.Proofs.Ytipbcpobnciccaa
open Go.Lite
noncomputable def sp106 : SpL := []
noncomputable def lp106 : LpL := []
noncomputable def sw106 : SwL := []
noncomputable def tab106 : Tab := mkTab sp106 lp106 sw106
noncomputable def sp105 : SpL := []
noncomputable def lp105 : LpL := []
noncomputable def sw105 : SwL := []
noncomputable def tab105 : Tab := mkTab sp105 lp105 sw105
noncomputable def sp104 : SpL := [(106, mkF s106 G106)]
noncomputable def lp104 : LpL := []
noncomputable def sw104 : SwL := [(105, mkFW s105 G105)]
noncomputable def tab104 : Tab := mkTab sp104 lp104 sw104
noncomputable def sp107 : SpL := [(106, mkF s106 G106)]
noncomputable def lp107 : LpL := []
noncomputable def sw107 : SwL := [(105, mkFW s105 G105)]
noncomputable def tab107 : Tab := mkTab sp107 lp107 sw107
noncomputable def sp108 : SpL := [(106, mkF s106 G106), (73, mkF s73 G73)]
noncomputable def lp108 : LpL := []
noncomputable def sw108 : SwL := [(105, mkFW s105 G105)]
noncomputable def tab108 : Tab := mkTab sp108 lp108 sw108
noncomputable def sp79 : SpL := []
noncomputable def lp79 : LpL := [(3, mkL l79_3 G79_3)]
noncomputable def sw79 : SwL := []
noncomputable def tab79 : Tab := mkTab sp79 lp79 sw79
end Go.Proofs.Ytipbcpobnciccaa
namespace Go.Proofs.Ytipbcpobnciccaa
open Go.Lite
set_option linter.unusedVariables false
set_option maxRecDepth 100000
theorem t106 (a : D) : fnT C tab106 106 s106 [a] =
  T.leaf [D.i (IntKind.wrap IntKind.i64 ((1 : Int) + a.I))] := by kernel_rfl
theorem t105 (a b : D) : fnTW C tab105 105 s105 [a, b] =
  T.leaf [D.i (a.I.toNat : Int), D.l b.L] := by kernel_rfl
theorem t104 (a b c d : D) : fnT C tab104 104 s104 [a, b, c, d] =
  T.need (yes ((0 : Int) ≤ (0 : Int) ∧ (0 : Int) ≤ (1000 : Int))) (T.need (yes ((0 : Int) ≤ (↑(List.length [[D.i 0, D.i ((0 : Int) + (1 : Int)), D.i a.I]]) : Int))) (T.leaf [D.i 1, D.l [[D.i 0, D.i 1, D.i a.I]]])) := by kernel_rfl
theorem t107 (a b c d : D) : fnT C tab107 107 s107 [a, b, c, d] =
  T.need (yes ((0 : Int) ≤ IntKind.wrap IntKind.i64 (a.I - (1 : Int)) ∧ IntKind.wrap IntKind.i64 (a.I - (1 : Int)) ≤ (1000 : Int))) (T.need (yes ((0 : Int) ≤ a.I ∧ a.I ≤ (1000 : Int))) (T.need (decide ((0 : Int) ≤ IntKind.wrap IntKind.i64 (a.I - (1 : Int)) ∧ IntKind.wrap IntKind.i64 (a.I - (1 : Int)) < (d.L.length : Int))) (T.ite (decide (a.I < (d.L.length : Int))) (T.need (decide ((0 : Int) ≤ a.I ∧ a.I < (d.L.length : Int))) (T.ite (D.B (List.getD (List.getD d.L a.I.toNat []) (0 + 1 + 1 + 1 + 1) default)) (T.need (decide ((0 : Int) ≤ a.I ∧ a.I < (d.L.length : Int))) (T.need (decide ((0 : Int) ≤ a.I ∧ a.I < (d.L.length : Int))) (T.need (yes ((0 : Int) ≤ (↑(List.length [[D.i (IntKind.wrap IntKind.i64 (a.I - (1 : Int)) + (1 : Int)), D.i (a.I + (1 : Int)), D.i (IntKind.wrap IntKind.i64 (IntKind.wrap IntKind.i64 (D.I (List.getD (List.getD d.L (Int.toNat (IntKind.wrap IntKind.i64 (a.I - (1 : Int)))) []) 0 default) + IntKind.wrap IntKind.i64 (IntKind.wrap IntKind.i64 (b.I - (1 : Int)) * D.I (List.getD (List.getD d.L (Int.toNat (IntKind.wrap IntKind.i64 (a.I - (1 : Int)))) []) (0 + 1 + 1 + 1) default))) + D.I (List.getD (List.getD d.L a.I.toNat []) (0 + 1 + 1 + 1 + 1 + 1) default)))], [D.i (a.I + (1 : Int)), D.i (IntKind.wrap IntKind.i64 (a.I - (1 : Int)) + (1 : Int)), D.i (IntKind.wrap IntKind.i64 ((0 : Int) - IntKind.wrap IntKind.i64 (IntKind.wrap IntKind.i64 (D.I (List.getD (List.getD d.L (Int.toNat (IntKind.wrap IntKind.i64 (a.I - (1 : Int)))) []) 0 default) + IntKind.wrap IntKind.i64 (IntKind.wrap IntKind.i64 (b.I - (1 : Int)) * D.I (List.getD (List.getD d.L (Int.toNat (IntKind.wrap IntKind.i64 (a.I - (1 : Int)))) []) (0 + 1 + 1 + 1) default))) + D.I (List.getD (List.getD d.L a.I.toNat []) (0 + 1 + 1 + 1 + 1 + 1 + 1) default))))]]) : Int))) (T.leaf [D.i 2, D.l [[D.i (IntKind.wrap IntKind.i64 (a.I - (1 : Int)) + (1 : Int)), D.i (a.I + (1 : Int)), D.i (IntKind.wrap IntKind.i64 (IntKind.wrap IntKind.i64 (D.I (List.getD (List.getD d.L (Int.toNat (IntKind.wrap IntKind.i64 (a.I - (1 : Int)))) []) 0 default) + IntKind.wrap IntKind.i64 (IntKind.wrap IntKind.i64 (b.I - (1 : Int)) * D.I (List.getD (List.getD d.L (Int.toNat (IntKind.wrap IntKind.i64 (a.I - (1 : Int)))) []) (0 + 1 + 1 + 1) default))) + D.I (List.getD (List.getD d.L a.I.toNat []) (0 + 1 + 1 + 1 + 1 + 1) default)))], [D.i (a.I + (1 : Int)), D.i (IntKind.wrap IntKind.i64 (a.I - (1 : Int)) + (1 : Int)), D.i (IntKind.wrap IntKind.i64 ((0 : Int) - IntKind.wrap IntKind.i64 (IntKind.wrap IntKind.i64 (D.I (List.getD (List.getD d.L (Int.toNat (IntKind.wrap IntKind.i64 (a.I - (1 : Int)))) []) 0 default) + IntKind.wrap IntKind.i64 (IntKind.wrap IntKind.i64 (b.I - (1 : Int)) * D.I (List.getD (List.getD d.L (Int.toNat (IntKind.wrap IntKind.i64 (a.I - (1 : Int)))) []) (0 + 1 + 1 + 1) default))) + D.I (List.getD (List.getD d.L a.I.toNat []) (0 + 1 + 1 + 1 + 1 + 1 + 1) default))))]]])))) (T.need (yes ((0 : Int) ≤ (↑(List.length [[D.i (IntKind.wrap IntKind.i64 (a.I - (1 : Int)) + (1 : Int)), D.i (a.I + (1 : Int)), D.i (D.I (List.getD (List.getD d.L (Int.toNat (IntKind.wrap IntKind.i64 (a.I - (1 : Int)))) []) 0 default))], [D.i (a.I + (1 : Int)), D.i (IntKind.wrap IntKind.i64 (a.I - (1 : Int)) + (1 : Int)), D.i (IntKind.wrap IntKind.i64 ((0 : Int) - D.I (List.getD (List.getD d.L (Int.toNat (IntKind.wrap IntKind.i64 (a.I - (1 : Int)))) []) 0 default)))]]) : Int))) (T.leaf [D.i 2, D.l [[D.i (IntKind.wrap IntKind.i64 (a.I - (1 : Int)) + (1 : Int)), D.i (a.I + (1 : Int)), D.i (D.I (List.getD (List.getD d.L (Int.toNat (IntKind.wrap IntKind.i64 (a.I - (1 : Int)))) []) 0 default))], [D.i (a.I + (1 : Int)), D.i (IntKind.wrap IntKind.i64 (a.I - (1 : Int)) + (1 : Int)), D.i (IntKind.wrap IntKind.i64 ((0 : Int) - D.I (List.getD (List.getD d.L (Int.toNat (IntKind.wrap IntKind.i64 (a.I - (1 : Int)))) []) 0 default)))]]])))) (T.need (yes ((0 : Int) ≤ (↑(List.length [[D.i (IntKind.wrap IntKind.i64 (a.I - (1 : Int)) + (1 : Int)), D.i (a.I + (1 : Int)), D.i (D.I (List.getD (List.getD d.L (Int.toNat (IntKind.wrap IntKind.i64 (a.I - (1 : Int)))) []) 0 default))], [D.i (a.I + (1 : Int)), D.i (IntKind.wrap IntKind.i64 (a.I - (1 : Int)) + (1 : Int)), D.i (IntKind.wrap IntKind.i64 ((0 : Int) - D.I (List.getD (List.getD d.L (Int.toNat (IntKind.wrap IntKind.i64 (a.I - (1 : Int)))) []) 0 default)))]]) : Int))) (T.leaf [D.i 2, D.l [[D.i (IntKind.wrap IntKind.i64 (a.I - (1 : Int)) + (1 : Int)), D.i (a.I + (1 : Int)), D.i (D.I (List.getD (List.getD d.L (Int.toNat (IntKind.wrap IntKind.i64 (a.I - (1 : Int)))) []) 0 default))], [D.i (a.I + (1 : Int)), D.i (IntKind.wrap IntKind.i64 (a.I - (1 : Int)) + (1 : Int)), D.i (IntKind.wrap IntKind.i64 ((0 : Int) - D.I (List.getD (List.getD d.L (Int.toNat (IntKind.wrap IntKind.i64 (a.I - (1 : Int)))) []) 0 default)))]]]))))) := by kernel_rfl
theorem t108 (a b c d e : D) : fnT C tab108 108 s108 [a, b, c, d, e] =
  T.need (decide ((0 : Int) ≤ a.I ∧ a.I < (e.L.length : Int))) (T.need (yes ((0 : Int) ≤ a.I ∧ a.I ≤ (1000 : Int))) (T.ite (List.isEmpty b.L) (T.need (yes ((0 : Int) ≤ (↑(List.length [[D.i 0, D.i (a.I + (1 : Int)), D.i (D.I (List.getD (List.getD e.L a.I.toNat []) (0 + 1) default))]]) : Int))) (T.leaf [D.i 0, D.i 1, D.l [[D.i 0, D.i (a.I + (1 : Int)), D.i (D.I (List.getD (List.getD e.L a.I.toNat []) (0 + 1) default))]]])) (T.need (yes (planB c.I d.I e.L = true ∧ (0 : Int) ≤ a.I ∧ a.I < (e.L.length : Int))) (T.need (!List.isEmpty b.L) (T.ite (decide (IntKind.wrap IntKind.i64 (D.I (List.getD (List.getD e.L a.I.toNat []) (0 + 1) default) + busyF c.I (List.getD e.L a.I.toNat [])) > D.I (List.getD (List.getD b.L 0 []) (0 + 1 + 1) default))) (T.leaf [D.i 1]) (T.need (!List.isEmpty b.L) (T.need (yes (planB c.I d.I e.L = true ∧ (0 : Int) ≤ a.I ∧ a.I < (e.L.length : Int))) (T.need (!List.isEmpty b.L) (T.need (yes ((0 : Int) ≤ (↑(List.length [[D.i 0, D.i (a.I + (1 : Int)), D.i (IntKind.wrap IntKind.i64 (D.I (List.getD (List.getD e.L a.I.toNat []) (0 + 1) default) + D.I (List.getD (List.getD b.L 0 []) 0 default)))], [D.i (a.I + (1 : Int)), D.i 0, D.i (IntKind.wrap IntKind.i64 (busyF c.I (List.getD e.L a.I.toNat []) - D.I (List.getD (List.getD b.L 0 []) (0 + 1) default)))]]) : Int))) (T.leaf [D.i 0, D.i 2, D.l [[D.i 0, D.i (a.I + (1 : Int)), D.i (IntKind.wrap IntKind.i64 (D.I (List.getD (List.getD e.L a.I.toNat []) (0 + 1) default) + D.I (List.getD (List.getD b.L 0 []) 0 default)))], [D.i (a.I + (1 : Int)), D.i 0, D.i (IntKind.wrap IntKind.i64 (busyF c.I (List.getD e.L a.I.toNat []) - D.I (List.getD (List.getD b.L 0 []) (0 + 1) default)))]]])))))))))) := by kernel_rfl
theorem t79 (a b c d : D) : fnTW C tab79 79 s79 [a, b, c, d] =
  T.need (yes (chOK c.L d.L ∧ c.L.length ≤ 60 ∧ (∀ (j : Nat), j < c.L.length → List.length (lx (List.getD c.L j []) 7) ≤ 10) ∧ (c.L.length : Int) = (c.L.length : Int) ∧ (0 : Int) ≤ (0 : Int) ∧ (0 : Int) ≤ (c.L.length : Int) ∧ (↑(List.length [[D.l [[D.i (↑0 : Int), D.i b.I]]]]) : Int) = (↑(List.length [[D.l [[D.i (↑0 : Int), D.i b.I]]]]) : Int) ∧ 0 < List.length [[D.l [[D.i (↑0 : Int), D.i b.I]]]] ∧ (↑(List.length [[D.l [[D.i (↑0 : Int), D.i b.I]]]]) : Int) ≤ (2 : Int) * (0 : Int) + (1 : Int))) (T.leaf [D.i (↑(Int.toNat (↑(List.length ([[D.l [[D.i (↑0 : Int), D.i b.I]]]] ++ rulesF c.L d.L (Int.toNat (0 : Int)) (c.L.length - Int.toNat (0 : Int)))) : Int)) : Int), D.l ([D.l [[D.i 0, D.i b.I]]] :: List.append._f [] PUnit.unit (rulesF c.L d.L (Int.toNat (0 : Int)) (c.L.length - Int.toNat (0 : Int))))]) := by kernel_rfl
theorem t79_3 (a b c d e f : D) : roundT C tab79 79 (loopOf C.P 79 3) l79_3 [a, b, c, d, e, f] =
  T.ite (decide (e.I < d.I)) (T.need (decide ((0 : Int) ≤ e.I ∧ e.I < (c.L.length : Int))) (T.need true (T.ite false (T.need (decide ((0 : Int) ≤ e.I ∧ e.I < (a.L.length : Int))) (T.ite (decide (D.I (List.getD (List.getD a.L e.I.toNat []) 0 default) ≥ (0 : Int))) (T.need (decide ((0 : Int) ≤ e.I ∧ e.I < (a.L.length : Int))) (T.need (decide ((0 : Int) ≤ D.I (List.getD (List.getD a.L e.I.toNat []) 0 default) ∧ D.I (List.getD (List.getD a.L e.I.toNat []) 0 default) < (↑(List.length (D.L (List.getD (List.getD c.L e.I.toNat []) (0 + 1 + 1 + 1 + 1 + 1 + 1 + 1) default))) : Int))) (T.need true (T.ite false (T.leaf (Rd.again [D.l a.L, D.i (b.I.toNat : Int), D.l c.L, D.i d.I, D.i (IntKind.wrap IntKind.i64 (e.I + (1 : Int))), D.l f.L])) (T.need (decide (b.I.toNat ≤ f.L.length ∧ b.I.toNat + 1 ≤ 2 ^ 62 ∧ (b.I.toNat + 1) * Try.prog.types[110].bytes ≤ 2 ^ 47)) (T.leaf (Rd.again [D.l a.L, D.i (↑(b.I.toNat + 1) : Int), D.l c.L, D.i d.I, D.i (IntKind.wrap IntKind.i64 (e.I + (1 : Int))), D.l (List.take b.I.toNat f.L ++ List.take (List.length [[D.l [[D.i (↑(0 + 1 + 1) : Int), D.i e.I, D.l [[D.i (D.I (List.getD (List.getD (D.L (List.getD (List.getD c.L e.I.toNat []) (0 + 1 + 1 + 1 + 1 + 1 + 1 + 1) default)) (Int.toNat (D.I (List.getD (List.getD a.L e.I.toNat []) 0 default))) []) 0 default)), D.i (D.I (List.getD (List.getD (D.L (List.getD (List.getD c.L e.I.toNat []) (0 + 1 + 1 + 1 + 1 + 1 + 1 + 1) default)) (Int.toNat (D.I (List.getD (List.getD a.L e.I.toNat []) 0 default))) []) (0 + 1) default)), D.i (D.I (List.getD (List.getD (D.L (List.getD (List.getD c.L e.I.toNat []) (0 + 1 + 1 + 1 + 1 + 1 + 1 + 1) default)) (Int.toNat (D.I (List.getD (List.getD a.L e.I.toNat []) 0 default))) []) (0 + 1 + 1) default))]]]]]]) [[D.l [[D.i (↑(0 + 1 + 1) : Int), D.i e.I, D.l [[D.i (D.I (List.getD (List.getD (D.L (List.getD (List.getD c.L e.I.toNat []) (0 + 1 + 1 + 1 + 1 + 1 + 1 + 1) default)) (Int.toNat (D.I (List.getD (List.getD a.L e.I.toNat []) 0 default))) []) 0 default)), D.i (D.I (List.getD (List.getD (D.L (List.getD (List.getD c.L e.I.toNat []) (0 + 1 + 1 + 1 + 1 + 1 + 1 + 1) default)) (Int.toNat (D.I (List.getD (List.getD a.L e.I.toNat []) 0 default))) []) (0 + 1) default)), D.i (D.I (List.getD (List.getD (D.L (List.getD (List.getD c.L e.I.toNat []) (0 + 1 + 1 + 1 + 1 + 1 + 1 + 1) default)) (Int.toNat (D.I (List.getD (List.getD a.L e.I.toNat []) 0 default))) []) (0 + 1 + 1) default))]]]]]])]))))))) (T.need true (T.ite false (T.leaf (Rd.again [D.l a.L, D.i (b.I.toNat : Int), D.l c.L, D.i d.I, D.i (IntKind.wrap IntKind.i64 (e.I + (1 : Int))), D.l f.L])) (T.need (decide (b.I.toNat ≤ f.L.length ∧ b.I.toNat + 1 ≤ 2 ^ 62 ∧ (b.I.toNat + 1) * Try.prog.types[110].bytes ≤ 2 ^ 47)) (T.leaf (Rd.again [D.l a.L, D.i (↑(b.I.toNat + 1) : Int), D.l c.L, D.i d.I, D.i (IntKind.wrap IntKind.i64 (e.I + (1 : Int))), D.l (List.take b.I.toNat f.L ++ List.take (List.length [[D.l [[D.i (↑(0 + 1 + 1) : Int), D.i e.I, D.l []]]]]) [[D.l [[D.i (↑(0 + 1 + 1) : Int), D.i e.I, D.l []]]]])]))))))) (T.need (decide (b.I.toNat ≤ f.L.length ∧ b.I.toNat + 1 ≤ 2 ^ 62 ∧ (b.I.toNat + 1) * Try.prog.types[110].bytes ≤ 2 ^ 47)) (T.need (decide ((0 : Int) ≤ e.I ∧ e.I < (a.L.length : Int))) (T.ite (decide (D.I (List.getD (List.getD a.L e.I.toNat []) 0 default) ≥ (0 : Int))) (T.need (decide ((0 : Int) ≤ e.I ∧ e.I < (a.L.length : Int))) (T.need (decide ((0 : Int) ≤ D.I (List.getD (List.getD a.L e.I.toNat []) 0 default) ∧ D.I (List.getD (List.getD a.L e.I.toNat []) 0 default) < (↑(List.length (D.L (List.getD (List.getD c.L e.I.toNat []) (0 + 1 + 1 + 1 + 1 + 1 + 1 + 1) default))) : Int))) (T.need true (T.ite false (T.leaf (Rd.again [D.l a.L, D.i (↑(b.I.toNat + 1) : Int), D.l c.L, D.i d.I, D.i (IntKind.wrap IntKind.i64 (e.I + (1 : Int))), D.l (List.take b.I.toNat f.L ++ List.take (List.length [[D.l [[D.i (↑(0 + 1) : Int), D.i (IntKind.wrap IntKind.i64 (e.I + (1 : Int)))]]]]) [[D.l [[D.i (↑(0 + 1) : Int), D.i (IntKind.wrap IntKind.i64 (e.I + (1 : Int)))]]]])])) (T.need (decide (b.I.toNat + 1 ≤ List.length (List.take b.I.toNat f.L ++ List.take (List.length [[D.l [[D.i (↑(0 + 1) : Int), D.i (IntKind.wrap IntKind.i64 (e.I + (1 : Int)))]]]]) [[D.l [[D.i (↑(0 + 1) : Int), D.i (IntKind.wrap IntKind.i64 (e.I + (1 : Int)))]]]]) ∧ b.I.toNat + 1 + 1 ≤ 2 ^ 62 ∧ (b.I.toNat + 1 + 1) * Try.prog.types[110].bytes ≤ 2 ^ 47)) (T.leaf (Rd.again [D.l a.L, D.i (↑(b.I.toNat + 1 + 1) : Int), D.l c.L, D.i d.I, D.i (IntKind.wrap IntKind.i64 (e.I + (1 : Int))), D.l (List.take (b.I.toNat + 1) (List.take b.I.toNat f.L ++ List.take (List.length [[D.l [[D.i (↑(0 + 1) : Int), D.i (IntKind.wrap IntKind.i64 (e.I + (1 : Int)))]]]]) [[D.l [[D.i (↑(0 + 1) : Int), D.i (IntKind.wrap IntKind.i64 (e.I + (1 : Int)))]]]]) ++ List.take (List.length [[D.l [[D.i (↑(0 + 1 + 1) : Int), D.i e.I, D.l [[D.i (D.I (List.getD (List.getD (D.L (List.getD (List.getD c.L e.I.toNat []) (0 + 1 + 1 + 1 + 1 + 1 + 1 + 1) default)) (Int.toNat (D.I (List.getD (List.getD a.L e.I.toNat []) 0 default))) []) 0 default)), D.i (D.I (List.getD (List.getD (D.L (List.getD (List.getD c.L e.I.toNat []) (0 + 1 + 1 + 1 + 1 + 1 + 1 + 1) default)) (Int.toNat (D.I (List.getD (List.getD a.L e.I.toNat []) 0 default))) []) (0 + 1) default)), D.i (D.I (List.getD (List.getD (D.L (List.getD (List.getD c.L e.I.toNat []) (0 + 1 + 1 + 1 + 1 + 1 + 1 + 1) default)) (Int.toNat (D.I (List.getD (List.getD a.L e.I.toNat []) 0 default))) []) (0 + 1 + 1) default))]]]]]]) [[D.l [[D.i (↑(0 + 1 + 1) : Int), D.i e.I, D.l [[D.i (D.I (List.getD (List.getD (D.L (List.getD (List.getD c.L e.I.toNat []) (0 + 1 + 1 + 1 + 1 + 1 + 1 + 1) default)) (Int.toNat (D.I (List.getD (List.getD a.L e.I.toNat []) 0 default))) []) 0 default)), D.i (D.I (List.getD (List.getD (D.L (List.getD (List.getD c.L e.I.toNat []) (0 + 1 + 1 + 1 + 1 + 1 + 1 + 1) default)) (Int.toNat (D.I (List.getD (List.getD a.L e.I.toNat []) 0 default))) []) (0 + 1) default)), D.i (D.I (List.getD (List.getD (D.L (List.getD (List.getD c.L e.I.toNat []) (0 + 1 + 1 + 1 + 1 + 1 + 1 + 1) default)) (Int.toNat (D.I (List.getD (List.getD a.L e.I.toNat []) 0 default))) []) (0 + 1 + 1) default))]]]]]])]))))))) (T.need true (T.ite false (T.leaf (Rd.again [D.l a.L, D.i (↑(b.I.toNat + 1) : Int), D.l c.L, D.i d.I, D.i (IntKind.wrap IntKind.i64 (e.I + (1 : Int))), D.l (List.take b.I.toNat f.L ++ List.take (List.length [[D.l [[D.i (↑(0 + 1) : Int), D.i (IntKind.wrap IntKind.i64 (e.I + (1 : Int)))]]]]) [[D.l [[D.i (↑(0 + 1) : Int), D.i (IntKind.wrap IntKind.i64 (e.I + (1 : Int)))]]]])])) (T.need (decide (b.I.toNat + 1 ≤ List.length (List.take b.I.toNat f.L ++ List.take (List.length [[D.l [[D.i (↑(0 + 1) : Int), D.i (IntKind.wrap IntKind.i64 (e.I + (1 : Int)))]]]]) [[D.l [[D.i (↑(0 + 1) : Int), D.i (IntKind.wrap IntKind.i64 (e.I + (1 : Int)))]]]]) ∧ b.I.toNat + 1 + 1 ≤ 2 ^ 62 ∧ (b.I.toNat + 1 + 1) * Try.prog.types[110].bytes ≤ 2 ^ 47)) (T.leaf (Rd.again [D.l a.L, D.i (↑(b.I.toNat + 1 + 1) : Int), D.l c.L, D.i d.I, D.i (IntKind.wrap IntKind.i64 (e.I + (1 : Int))), D.l (List.take (b.I.toNat + 1) (List.take b.I.toNat f.L ++ List.take (List.length [[D.l [[D.i (↑(0 + 1) : Int), D.i (IntKind.wrap IntKind.i64 (e.I + (1 : Int)))]]]]) [[D.l [[D.i (↑(0 + 1) : Int), D.i (IntKind.wrap IntKind.i64 (e.I + (1 : Int)))]]]]) ++ List.take (List.length [[D.l [[D.i (↑(0 + 1 + 1) : Int), D.i e.I, D.l []]]]]) [[D.l [[D.i (↑(0 + 1 + 1) : Int), D.i e.I, D.l []]]]])]))))))))))) (T.leaf (Rd.out (Ex.exit 0) [D.i (b.I.toNat : Int), D.l f.L])) := by kernel_rfl
end Go.Proofs.Ytipbcpobnciccaa
namespace Go.Proofs.Ytipbcpobnciccaa
open Go.Lite
set_option maxRecDepth 100000
theorem bytes110 : Try.prog.types[110].bytes = 16 := by kernel_rfl
theorem runF {α : Type} {a b : T α} : (T.ite false a b).run = b.run := rfl
theorem ok106 (n : Nat) : FnOK C (n + 1) 106 (mkF s106 G106) := by
  refine fn_ofS hC (sp := sp106) (lp := lp106) (sw := sw106) trivial trivial (by kernel_rfl) [] (by kernel_rfl) rfl (fun k hk => by cases hk) fun ds rr h => ?_
  unfold G106 at h
  split at h
  · rename_i k
    obtain ⟨hp, h⟩ := need_some h
    rw [yes_iff] at hp
    refine (congrArg T.run (t106 k)).trans ?_
    rw [← h, wrap_id (x := 1 + k.I) (by omega) (by omega), Int.add_comm]
  · cases h
theorem ok105 (n : Nat) : FnOKW C (n + 1) 105 (mkFW s105 G105) := by
  refine fn_ofW hC (sp := sp105) (lp := lp105) (sw := sw105) trivial trivial (by kernel_rfl) [] (by kernel_rfl) (by kernel_rfl) (fun k hk => by cases hk) fun ds rr h => ?_
  unfold G105 at h
  split at h
  · rename_i m r
    obtain ⟨hp, h⟩ := need_some h
    rw [yes_iff] at hp
    refine (congrArg T.run (t105 m r)).trans ?_
    rw [← h, Int.toNat_of_nonneg hp]
  · cases h
theorem ok104 (n : Nat) : FnOK C (n + 2) 104 (mkF s104 G104) := by
  refine fn_ofS hC (sp := sp104) (lp := lp104) (sw := sw104) ⟨ok106 n, trivial⟩ ⟨ok105 n, trivial⟩ (by kernel_rfl) [] (by kernel_rfl) rfl (fun k hk => by cases hk) fun ds rr h => ?_
  unfold G104 at h
  split at h
  · rename_i a c f w
    refine (congrArg T.run (t104 a c f w)).trans ?_
    rw [← h]
    exact go_yes (by omega) (go_yes (by omega) rfl)
  · cases h
theorem ok107 (n : Nat) : FnOK C (n + 2) 107 (mkF s107 G107) := by
  refine fn_ofS hC (sp := sp107) (lp := lp107) (sw := sw107) ⟨ok106 n, trivial⟩ ⟨ok105 n, trivial⟩ (by kernel_rfl) [] (by kernel_rfl) rfl (fun k hk => by cases hk) fun ds rr h => ?_
  unfold G107 at h
  split at h
  · rename_i a c f w
    obtain ⟨hp, h⟩ := need_some h
    rw [yes_iff] at hp
    obtain ⟨hp, h1, h2⟩ := hp
    refine (congrArg T.run (t107 a c f w)).trans ?_
    rw [← h]
    obtain ⟨p1, p2, -⟩ := plan_of hp
    obtain ⟨k, hk⟩ : ∃ k : Nat, a.I = (k : Int) + 1 := ⟨(a.I - 1).toNat, by omega⟩
    have hkl : k < w.L.length := by omega
    have s1 := span_of hp hkl
    have c1 := wayC_of (way_of hp hkl).1
    have e0 : IntKind.i64.wrap ((k : Int) + 1 - 1) = (k : Int) := (wrap_id (by omega) (by omega)).trans (by omega)
    have e1 : ((k : Int) + 1 - 1).toNat = k := by omega
    have e2 : ((k : Int) + 1).toNat = k + 1 := by omega
    have e3 : IntKind.i64.wrap (c.I - 1) = c.I - 1 := wrap_id (by omega) (by omega)
    unfold spanF at s1
    have e4 : IntKind.i64.wrap ((c.I - 1) * ix (w.L.getD k []) 3) = (c.I - 1) * ix (w.L.getD k []) 3 := wrap_id (by omega) (by omega)
    have e5 : IntKind.i64.wrap (ix (w.L.getD k []) 0 + (c.I - 1) * ix (w.L.getD k []) 3) = ix (w.L.getD k []) 0 + (c.I - 1) * ix (w.L.getD k []) 3 := wrap_id (by omega) (by omega)
    have e6 : IntKind.i64.wrap (0 - ix (w.L.getD k []) 0) = 0 - ix (w.L.getD k []) 0 := wrap_id (by omega) (by omega)
    simp only [hk, e0, e1, e2, e3, Nat.reduceAdd, ix_def, Int.toNat_natCast, e4, e5, e6]
    refine go_yes (by omega) (go_yes (by omega) (go_dec (by omega) (go_if (fun hlt => ?_) fun hge => ?_)))
    · have c2 := wayC_of (way_of hp (k := k + 1) (by omega)).1
      refine go_dec (by omega) (go_ite (fun hb => go_dec (by omega) (go_dec (by omega) ?_)) fun hb => ?_)
      · rw [wrap_id (x := ix (w.L.getD k []) 0 + (c.I - 1) * ix (w.L.getD k []) 3 + ix (w.L.getD (k + 1) []) 5) (by omega) (by omega), wrap_id (x := ix (w.L.getD k []) 0 + (c.I - 1) * ix (w.L.getD k []) 3 + ix (w.L.getD (k + 1) []) 6) (by omega) (by omega),
          wrap_id (x := 0 - (ix (w.L.getD k []) 0 + (c.I - 1) * ix (w.L.getD k []) 3 + ix (w.L.getD (k + 1) []) 6)) (by omega) (by omega)]
        have hc : k + 1 < w.L.length ∧ bx (w.L.getD (k + 1) []) 4 = true := ⟨by omega, hb⟩
        unfold afterL leW moW lk3 spanF
        rw [if_pos hc, if_pos hc]
        refine go_yes (by omega) ?_
        simp only [run_leaf, Option.some.injEq, List.cons.injEq, D.i.injEq, D.l.injEq, and_true, true_and]
        omega
      · have hc : ¬ (k + 1 < w.L.length ∧ bx (w.L.getD (k + 1) []) 4 = true) := fun hh => by
          have : bx (w.L.getD (k + 1) []) 4 = false := hb
          rw [this] at hh
          cases hh.2
        unfold afterL leW moW lk3
        rw [if_neg hc, if_neg hc]
        refine go_yes (by omega) ?_
        simp only [run_leaf, Option.some.injEq, List.cons.injEq, D.i.injEq, D.l.injEq, and_true, true_and]
        omega
    · have hc : ¬ (k + 1 < w.L.length ∧ bx (w.L.getD (k + 1) []) 4 = true) := fun hh => by omega
      unfold afterL leW moW lk3
      rw [if_neg hc, if_neg hc]
      refine go_yes (by omega) ?_
      simp only [run_leaf, Option.some.injEq, List.cons.injEq, D.i.injEq, D.l.injEq, and_true, true_and]
      omega
  · cases h
theorem hourB_of {l : List (List D)} {k : Nat} (h : hourB l k = true) : (0 ≤ ix (l.getD k []) 0 ∧ ix (l.getD k []) 0 ≤ ix (l.getD k []) 1) ∧ ix (l.getD k []) 1 ≤ 200000 ∧ 0 ≤ ix (l.getD k []) 2 ∧ ix (l.getD k []) 2 ≤ 200000 := of_decide_eq_true h
theorem ok108 (n : Nat) : FnOK C (n + 2) 108 (mkF s108 G108) := by
  refine fn_ofS hC (sp := sp108) (lp := lp108) (sw := sw108) ⟨ok106 n, ok73 n, trivial⟩ ⟨ok105 n, trivial⟩ (by kernel_rfl) [] (by kernel_rfl) rfl (fun k hk => by cases hk) fun ds rr h => ?_
  unfold G108 at h
  split at h
  · rename_i j o c f w
    obtain ⟨hp, h⟩ := need_some h
    rw [yes_iff] at hp
    obtain ⟨hp, h1, h2, hw⟩ := hp
    refine (congrArg T.run (t108 j o c f w)).trans ?_
    rw [← h]
    obtain ⟨p1, p2, -⟩ := plan_of hp
    have hjl : j.I.toNat < w.L.length := by omega
    have s1 := span_of hp hjl
    have c1 := wayC_of (way_of hp hjl).1
    have hb : 0 ≤ busyF c.I (w.L.getD j.I.toNat []) ∧ busyF c.I (w.L.getD j.I.toNat []) ≤ 14000 := by unfold busyF; omega
    simp only [Nat.reduceAdd, ix_def]
    refine go_dec (by omega) (go_yes (by omega) ?_)
    cases hem : o.L.isEmpty with
    | true => exact go_yes (by omega) rfl
    | false =>
      have hh := hourB_of (hw hem)
      have e1 : IntKind.i64.wrap (ix (w.L.getD j.I.toNat []) 1 + busyF c.I (w.L.getD j.I.toNat [])) = ix (w.L.getD j.I.toNat []) 1 + busyF c.I (w.L.getD j.I.toNat []) := wrap_id (by omega) (by omega)
      have e2 : IntKind.i64.wrap (ix (w.L.getD j.I.toNat []) 1 + ix (o.L.getD 0 []) 0) = ix (w.L.getD j.I.toNat []) 1 + ix (o.L.getD 0 []) 0 := wrap_id (by omega) (by omega)
      have e3 : IntKind.i64.wrap (busyF c.I (w.L.getD j.I.toNat []) - ix (o.L.getD 0 []) 1) = busyF c.I (w.L.getD j.I.toNat []) - ix (o.L.getD 0 []) 1 := wrap_id (by omega) (by omega)
      simp only [e1, e2, e3]
      rw [runF]
      refine go_yes ⟨hp, h1, h2⟩ (go_need rfl ?_)
      rw [runF]
      refine go_if (fun hgt => ?_) fun hle => ?_
      · rw [run_ite, if_pos (decide_eq_true hgt)]
      · rw [run_ite, if_neg (by simpa using hle)]
        exact go_need rfl (go_yes ⟨hp, h1, h2⟩ (go_need rfl (go_yes (by omega) rfl)))
  · cases h
theorem len_rulesF (w ch : List (List D)) : ∀ (k i : Nat), (rulesF w ch i k).length = 2 * k
  | 0, _ => rfl
  | k + 1, i => by simp only [rulesF, List.length_cons, len_rulesF w ch k (i + 1)]; omega
theorem len_rulesP (f : Int) (w ch : List (List D)) : (rulesP f w ch).length = 2 * w.length + 1 := by simp only [rulesP, List.length_cons, len_rulesF]
theorem ok79_3 (n : Nat) : LoopSimK C (n + 0) 0 79 (loopOf C.P 79 3) (mkLK 0 l79_3 G79_3) := by
  refine loop_ofK hC (sp := sp79) (lp := lp79) (sw := sw79) trivial trivial 0 [] (by kernel_rfl) rfl (fun k hk => by cases hk) (by kernel_rfl) (fun ds => ((ds.getD 3 default).I - (ds.getD 4 default).I).toNat) fun ds rr h => ?_
  unfold G79_3 at h
  split at h
  · rename_i ch nn w m i r
    obtain ⟨hp, h⟩ := need_some h
    rw [yes_iff] at hp
    obtain ⟨hc, hw, hh, hm, hi0, hi1, hn, hr0, hr1⟩ := hp
    have hb := big_eq
    refine ⟨by rw [fuelC]; simp; omega, ?_⟩
    rw [show roundTK C (mkTab sp79 lp79 sw79) 79 (loopOf C.P 79 3) 0 l79_3 [ch, nn, w, m, i, r] = _ from t79_3 ch nn w m i r]
    obtain ⟨k, hk⟩ : ∃ k : Nat, i.I = k := ⟨i.I.toNat, by omega⟩
    have t1 : ∀ x : List D, List.take 1 [x] = [x] := fun _ => rfl
    have t2 : ∀ x : List D, (r.L ++ [x]).take (r.L.length + 1) = r.L ++ [x] := fun x => List.take_of_length_le (by simp)
    simp only [hk, hm, hn, Int.toNat_natCast, t1, bytes110, Nat.reduceAdd, List.take_length, List.length_append, List.length_cons, List.length_nil, Nat.zero_add, t2] at h hi0 hi1 hr1 ⊢
    refine rd_if (fun hlt => ?_) fun hge => rd_out ?_
    · have hkl : k < w.L.length := by omega
      have w1 : IntKind.i64.wrap ((k : Int) + 1) = ((k + 1 : Nat) : Int) := wrap_succ (by omega)
      have hmu : ((w.L.length : Int) - ((k + 1 : Nat) : Int)).toNat < (m.I - i.I).toNat := by omega
      have hcj := hc.2 k hkl
      have hcl := hc.1
      have hhk := hh k hkl
      have rgd : ix (ch.L.getD k []) 0 = rg ch.L k := rfl
      simp only [w1, lx_def, ix_def, rgd]
      rw [show w.L.length - k = (w.L.length - (k + 1)) + 1 by omega] at h
      have go : ∀ o, optF w.L ch.L k = o → (G79_3 [.l ch.L, .i ((r.L.length + 1 + 1 : Nat) : Int), .l w.L, .i (w.L.length : Int), .i ((k + 1 : Nat) : Int), .l (r.L ++ [[.l [[.i 1, .i ((k + 1 : Nat) : Int)]]]] ++ [[.l [[.i 2, .i (k : Int), .l o]]]])]).run = some rr := fun o ho => by
        refine (need_yes ⟨hc, hw, hh, rfl, by simp only [I_i]; omega, by simp only [I_i, L_l]; omega, by simp only [I_i, L_l, List.length_append, List.length_cons, List.length_nil], by simp only [L_l, List.length_append, List.length_cons, List.length_nil]; omega, by simp only [L_l, I_i, List.length_append, List.length_cons, List.length_nil]; omega⟩).trans ?_
        rw [← h]
        have t3 : ((k : Int) + 1).toNat = k + 1 := by omega
        simp only [L_l, I_i, rulesF, aftE, cloE, ho, t3, Int.add_assoc, List.append_assoc, List.cons_append, List.nil_append, List.length_append, List.length_cons, Int.natCast_add, Int.natCast_one]
      refine rd_dec (by omega) (rd_need rfl (rd_false rfl (rd_dec (by omega) (rd_dec (by omega) (rd_if (fun hge => ?_) fun hlt2 => ?_)))))
      · have hne : ¬ (lx (w.L.getD k []) 7).length = 0 := fun e => by rw [if_pos e] at hcj; omega
        rw [if_neg hne] at hcj
        refine rd_dec (by omega) (rd_dec (by omega) (rd_need rfl (rd_false rfl (rd_dec (by omega) (rd_again (go _ ?_) hmu)))))
        unfold optF
        rw [if_pos hge]
        rfl
      · refine rd_need rfl (rd_false rfl (rd_dec (by omega) (rd_again (go _ ?_) hmu)))
        unfold optF
        rw [if_neg (by omega)]
    · rw [← h, show w.L.length - k = 0 by omega]
      simp only [rulesF, List.append_nil, run_leaf]
      rfl
  · cases h
theorem ok79 (n : Nat) : FnOKW C (n + 1) 79 (mkFW s79 G79) := by
  refine fn_ofW hC (sp := sp79) (lp := lp79) (sw := sw79) trivial trivial (by kernel_rfl) [3] (by kernel_rfl) (by kernel_rfl) (fun k hk L hL => by simp at hk; subst hk; cases hL; exact ok79_3 n) fun ds rr h => ?_
  unfold G79 at h
  split at h
  · rename_i c f w ch
    obtain ⟨hp, h⟩ := need_some h
    rw [yes_iff] at hp
    obtain ⟨hp, hc⟩ := hp
    refine (congrArg T.run (t79 c f w ch)).trans ?_
    rw [← h]
    obtain ⟨p1, p2, -⟩ := plan_of hp
    refine go_yes ⟨hc, by omega, fun j hj => (wayC_of (way_of hp hj).1).2.2.2.2.2.2, rfl, by omega, by omega, rfl, Nat.zero_lt_one, by show ((1 : Nat) : Int) ≤ 2 * 0 + 1; omega⟩ rfl
  · cases h
end Go.Proofs.Ytipbcpobnciccaa
namespace Go.Proofs.Ytipbcpobnciccaa
open Go.Lite
def s57 : Sig := ⟨[.agg [.k (.int .i64), .k (.int .i64), .k (.ro [.int .i64, .int .i64, .int .i64, .int .i64, .bool, .int .i64, .int .i64, .ro [.int .i64, .int .i64, .int .i64]])], .k (.ro [.int .i64]), .nils], [(.tup [.nils, .k .bool], []), (.tup [.sub 0 1, .k .bool], [.row [.int .i64]])]⟩
def l57_4 : LSig := mkLS [2, 3, 6, 7, 8, 24, 25, 26] [(86, [(2, .nils), (3, .ptr 0 3 0 0), (6, .ptr 1 1 0 0), (7, .ptr 2 1 0 0), (8, .ptr 3 2 0 0), (24, .sl 4 1), (25, .k (.int .i64)), (26, .k (.int .i64))], [.box [.k (.int .i64), .k (.int .i64), .k (.ro [.int .i64, .int .i64, .int .i64, .int .i64, .bool, .int .i64, .int .i64, .ro [.int .i64, .int .i64, .int .i64]])], .box [.nils], .box [.k .bool], .box [.k (.int .i64), .nils], .row [.alt (KA.cons 118 [.int .i64] (KA.cons 120 [.int .i64] (KA.cons 123 [.int .i64, .opt [.int .i64, .int .i64, .int .i64]] KA.nil)))]]), (86, [(2, .nils), (3, .ptr 0 3 0 0), (6, .ptr 1 1 0 0), (7, .ptr 2 1 0 0), (8, .ptr 3 2 0 0), (24, .sl 4 1), (25, .k (.int .i64)), (26, .k (.int .i64))], [.box [.k (.int .i64), .k (.int .i64), .k (.ro [.int .i64, .int .i64, .int .i64, .int .i64, .bool, .int .i64, .int .i64, .ro [.int .i64, .int .i64, .int .i64]])], .box [.nils], .box [.k .bool], .box [.k (.int .i64), .sl 5 3], .row [.alt (KA.cons 118 [.int .i64] (KA.cons 120 [.int .i64] (KA.cons 123 [.int .i64, .opt [.int .i64, .int .i64, .int .i64]] KA.nil)))], .row [.int .i64, .int .i64, .int .i64]])] [(.pan 105, [6, 7], [(86, [(6, .ptr 1 1 0 0), (7, .ptr 2 1 0 0)], [.box [.k (.int .i64), .k (.int .i64), .k (.ro [.int .i64, .int .i64, .int .i64, .int .i64, .bool, .int .i64, .int .i64, .ro [.int .i64, .int .i64, .int .i64]])], .box [.nils], .box [.k .bool]])]), (.exit 0, [2, 6, 7, 8], [(86, [(2, .nils), (6, .ptr 1 1 0 0), (7, .ptr 2 1 0 0), (8, .ptr 3 2 0 0)], [.box [.k (.int .i64), .k (.int .i64), .k (.ro [.int .i64, .int .i64, .int .i64, .int .i64, .bool, .int .i64, .int .i64, .ro [.int .i64, .int .i64, .int .i64]])], .box [.nils], .box [.k .bool], .box [.k (.int .i64), .nils]]), (86, [(2, .nils), (6, .ptr 1 1 0 0), (7, .ptr 2 1 0 0), (8, .ptr 3 2 0 0)], [.box [.k (.int .i64), .k (.int .i64), .k (.ro [.int .i64, .int .i64, .int .i64, .int .i64, .bool, .int .i64, .int .i64, .ro [.int .i64, .int .i64, .int .i64]])], .box [.nils], .box [.k .bool], .box [.k (.int .i64), .sl 4 3], .row [.int .i64, .int .i64, .int .i64]])])]
def l57_9 : LSig := mkLS [2, 6, 7, 8, 45, 46] [(86, [(2, .nils), (6, .ptr 1 1 0 0), (7, .ptr 2 1 0 0), (8, .ptr 3 2 0 0), (45, .k (.int .i64)), (46, .k (.int .i64))], [.box [.k (.int .i64), .k (.int .i64), .k (.ro [.int .i64, .int .i64, .int .i64, .int .i64, .bool, .int .i64, .int .i64, .ro [.int .i64, .int .i64, .int .i64]])], .box [.nils], .box [.k .bool], .box [.k (.int .i64), .nils]]), (86, [(2, .nils), (6, .ptr 1 1 0 0), (7, .ptr 2 1 0 0), (8, .ptr 3 2 0 0), (45, .k (.int .i64)), (46, .k (.int .i64))], [.box [.k (.int .i64), .k (.int .i64), .k (.ro [.int .i64, .int .i64, .int .i64, .int .i64, .bool, .int .i64, .int .i64, .ro [.int .i64, .int .i64, .int .i64]])], .box [.nils], .box [.k .bool], .box [.k (.int .i64), .sl 4 3], .row [.int .i64, .int .i64, .int .i64]])] [(.exit 2, [2, 6, 7, 8], [(86, [(2, .nils), (6, .ptr 1 1 0 0), (7, .ptr 2 1 0 0), (8, .ptr 3 2 0 0)], [.box [.k (.int .i64), .k (.int .i64), .k (.ro [.int .i64, .int .i64, .int .i64, .int .i64, .bool, .int .i64, .int .i64, .ro [.int .i64, .int .i64, .int .i64]])], .box [.nils], .box [.k .bool], .box [.k (.int .i64), .nils]]), (86, [(2, .nils), (6, .ptr 1 1 0 0), (7, .ptr 2 1 0 0), (8, .ptr 3 2 0 0)], [.box [.k (.int .i64), .k (.int .i64), .k (.ro [.int .i64, .int .i64, .int .i64, .int .i64, .bool, .int .i64, .int .i64, .ro [.int .i64, .int .i64, .int .i64]])], .box [.nils], .box [.k .bool], .box [.k (.int .i64), .sl 4 3], .row [.int .i64, .int .i64, .int .i64]])])]
def s58 : SigW := ⟨[.agg [.k (.int .i64), .k (.int .i64), .k (.ro [.int .i64, .int .i64, .int .i64, .int .i64, .bool, .int .i64, .int .i64, .ro [.int .i64, .int .i64, .int .i64]])], .k (.ro [.int .i64]), .sub 0 1], [.row [.int .i64]], [(.agg [.sub 0 1, .sl 1 1, .sl 2 1, .sl 3 1], [.row [.int .i64], .row [.int .i64], .row [.int .i64], .row [.int .i64]])]⟩
def l58_3 : LSig := mkLS [2, 3, 6, 7, 15, 16, 17] [(49, [(2, .sub 0 1), (3, .ptr 1 3 0 0), (6, .ptr 2 4 0 0), (7, .ptr 3 4 0 0), (15, .k (.ro [.int .i64, .int .i64, .int .i64, .int .i64, .bool, .int .i64, .int .i64, .ro [.int .i64, .int .i64, .int .i64]])), (16, .k (.int .i64)), (17, .k (.int .i64))], [.row [.int .i64], .box [.k (.int .i64), .k (.int .i64), .k (.ro [.int .i64, .int .i64, .int .i64, .int .i64, .bool, .int .i64, .int .i64, .ro [.int .i64, .int .i64, .int .i64]])], .box [.nils, .nils, .nils, .nils], .box [.sub 0 1, .nils, .nils, .sl 4 1], .row [.int .i64]]), (49, [(2, .sub 0 1), (3, .ptr 1 3 0 0), (6, .ptr 2 4 0 0), (7, .ptr 3 4 0 0), (15, .k (.ro [.int .i64, .int .i64, .int .i64, .int .i64, .bool, .int .i64, .int .i64, .ro [.int .i64, .int .i64, .int .i64]])), (16, .k (.int .i64)), (17, .k (.int .i64))], [.row [.int .i64], .box [.k (.int .i64), .k (.int .i64), .k (.ro [.int .i64, .int .i64, .int .i64, .int .i64, .bool, .int .i64, .int .i64, .ro [.int .i64, .int .i64, .int .i64]])], .box [.nils, .nils, .nils, .nils], .box [.sub 0 1, .sl 4 1, .sl 5 1, .sl 6 1], .row [.int .i64], .row [.int .i64], .row [.int .i64]])] [(.exit 0, [6, 7], [(49, [(6, .ptr 1 4 0 0), (7, .ptr 2 4 0 0)], [.row [.int .i64], .box [.nils, .nils, .nils, .nils], .box [.sub 0 1, .sl 3 1, .sl 4 1, .sl 5 1], .row [.int .i64], .row [.int .i64], .row [.int .i64]])])]
def s67 : Sig := ⟨[.k (.ro [.int .i64])], [(.sl 0 1, [.row [.int .i64]]), (.emp 1, [])]⟩
end Go.Proofs.Ytipbcpobnciccaa
namespace Go.Proofs.Ytipbcpobnciccaa
open Go.Lite
noncomputable section
def rD (l : List (List D)) (i : Nat) : List D := ((l.getD i []).getD 0 default).L.getD 0 []
def closO (c : Int) (w : List (List D)) (j : Nat) (o : List (List D)) : List (List D) :=
  if o.isEmpty then [lk3 0 ((j : Int) + 1) (ix (w.getD j []) 1)] else [lk3 0 ((j : Int) + 1) (ix (w.getD j []) 1 + ix (o.getD 0 []) 0), lk3 ((j : Int) + 1) 0 (busyF c (w.getD j []) - ix (o.getD 0 []) 1)]
def ruleL (c : Int) (w : List (List D)) (x : List D) : List (List D) := if ix x 0 = 0 then [lk3 0 1 (ix x 1)] else if ix x 0 = 1 then afterL c w (ix x 1 - 1).toNat else closO c w (ix x 1).toNat (lx x 2)
def ruleK (c : Int) (w : List (List D)) (x : List D) : Bool := decide (ix x 0 = 2 → (lx x 2).isEmpty = false → ix (w.getD (ix x 1).toNat []) 1 + busyF c (w.getD (ix x 1).toNat []) ≤ ix ((lx x 2).getD 0 []) 2)
def ruleV (w : List (List D)) (x : List D) : Prop := ix x 0 = 0 ∨ (ix x 0 = 1 ∧ 1 ≤ ix x 1 ∧ ix x 1 ≤ w.length) ∨ (ix x 0 = 2 ∧ (0 ≤ ix x 1 ∧ ix x 1 < w.length) ∧ winOk (lx x 2))
def linksU (c : Int) (w l : List (List D)) : Nat → Nat → List (List D)
  | _, 0 => []
  | i, k + 1 => ruleL c w (rD l i) ++ linksU c w l (i + 1) k
def rulesV (w l : List (List D)) : Prop := l.length ≤ 200 ∧ ∀ j, j < l.length → ruleV w (rD l j)
def rulesK (c : Int) (w l : List (List D)) (j : Nat) : Bool := ruleK c w (rD l j)
def G57_4 (ds : List D) : T (Ex × List D) := match ds with
  | [h, n, m, i, c, f, w, ok, nn, l] => .need (yes (h.I = 0 ∧ planB c.I f.I w.L = true ∧ rulesV w.L l.L ∧ n.I = l.L.length ∧ m.I = l.L.length ∧ i.I = 0 ∧ 0 < l.L.length))
      (.ite (allFrom (rulesK c.I w.L l.L) 0 l.L.length) (.leaf (.exit 0, [.i 1, .i c.I, .i f.I, .l w.L, .b ok.B, .i nn.I, .i (linksU c.I w.L l.L 0 l.L.length).length, .l (linksU c.I w.L l.L 0 l.L.length)])) (.leaf (.pan 105, [.i c.I, .i f.I, .l w.L, .b ok.B])))
  | [h, n, m, i, c, f, w, ok, nn, ll, l, k] => .need (yes (h.I = 1 ∧ planB c.I f.I w.L = true ∧ rulesV w.L l.L ∧ n.I = l.L.length ∧ m.I = l.L.length ∧ 0 ≤ i.I ∧ i.I ≤ l.L.length ∧ ll.I = k.L.length ∧ k.L.length ≤ 2 * i.I))
      (.ite (allFrom (rulesK c.I w.L l.L) i.I.toNat (l.L.length - i.I.toNat)) (.leaf (.exit 0, [.i 1, .i c.I, .i f.I, .l w.L, .b ok.B, .i nn.I, .i (k.L ++ linksU c.I w.L l.L i.I.toNat (l.L.length - i.I.toNat)).length, .l (k.L ++ linksU c.I w.L l.L i.I.toNat (l.L.length - i.I.toNat))])) (.leaf (.pan 105, [.i c.I, .i f.I, .l w.L, .b ok.B])))
  | _ => .fail
def G57_9 (ds : List D) : T (Ex × List D) := match ds with
  | [h, m, i, c, f, w, ok, nn, ll, k] => .need (yes (h.I = 1 ∧ 0 ≤ i.I ∧ i.I ≤ m.I ∧ m.I ≤ 500 ∧ ll.I = k.L.length ∧ k.L.length + (m.I - i.I) ≤ 5500))
      (.leaf (.exit 2, [.i 1, .i c.I, .i f.I, .l w.L, .b ok.B, .i nn.I, .i (k.L ++ extraF i.I.toNat (m.I - i.I).toNat).length, .l (k.L ++ extraF i.I.toNat (m.I - i.I).toNat)]))
  | _ => .fail
def G57 (ds : List D) : T (List D) := match ds with
  | [c, f, w, ch] => .need (yes (planB c.I f.I w.L = true ∧ chOK w.L ch.L))
      (.ite (duesOk c.I f.I w.L ch.L) (.leaf [.i 1, .i 1, .i (w.L.length + 1 : Nat), .b true, .l (pushP true c.I f.I w.L ch.L).1]) (.leaf [.i 0, .b false]))
  | _ => .fail
def rowF (g : Nat → Int) : Nat → Nat → List (List D)
  | _, 0 => []
  | i, k + 1 => [.i (g i)] :: rowF g (i + 1) k
def clG (w : List (List D)) (du : Nat → Int) (j : Nat) : Int := du j - ix (w.getD j []) 1
def opG (c : Int) (w : List (List D)) (du : Nat → Int) (j : Nat) : Int := du j + busyF c (w.getD j [])
def duF (du : List (List D)) (j : Nat) : Int := rg du (j + 1)
def duOK (w du : List (List D)) : Prop := du.length = w.length + 2 ∧ ∀ j, 0 ≤ rg du j ∧ rg du j ≤ 2000000000
def G58 (ds : List D) : T (List D) := match ds with
  | [c, f, w, ch, lo, n, du] => .need (yes (planB c.I f.I w.L = true ∧ ch.L.length = w.L.length ∧ lo.I = 1 ∧ n.I = w.L.length + 1 ∧ duOK w.L du.L))
      (.leaf [.i 1, .i (w.L.length + 1 : Nat), .i w.L.length, .i w.L.length, .i ch.L.length, .l du.L, .l (rowF (clG w.L (duF du.L)) 0 w.L.length), .l (rowF (opG c.I w.L (duF du.L)) 0 w.L.length), .l ch.L])
  | _ => .fail
def G58_3 (ds : List D) : T (Ex × List D) := match ds with
  | [h, lo, n, w', m, i, du, c, f, w, lo2, n2, n3, ch] => .need (yes (h.I = 0 ∧ planB c.I f.I w.L = true ∧ lo.I = 1 ∧ n.I = w.L.length + 1 ∧ w'.L = w.L ∧ m.I = w.L.length ∧ i.I = 0 ∧ duOK w.L du.L ∧ lo2.I = 1 ∧ n2.I = w.L.length + 1 ∧ n3.I = ch.L.length))
      (.leaf (.exit 0, [.l du.L, .i 1, .i (w.L.length + 1 : Nat), .i w.L.length, .i w.L.length, .i ch.L.length, .l (rowF (clG w.L (duF du.L)) 0 w.L.length), .l (rowF (opG c.I w.L (duF du.L)) 0 w.L.length), .l ch.L]))
  | [h, lo, n, w', m, i, du, c, f, w, lo2, n2, n4, n5, n3, cl, op, ch] => .need (yes (h.I = 1 ∧ planB c.I f.I w.L = true ∧ lo.I = 1 ∧ n.I = w.L.length + 1 ∧ w'.L = w.L ∧ m.I = w.L.length ∧ (0 ≤ i.I ∧ i.I ≤ w.L.length) ∧ duOK w.L du.L ∧ lo2.I = 1 ∧ n2.I = w.L.length + 1 ∧ n3.I = ch.L.length ∧
        n4.I = i.I ∧ n5.I = i.I ∧ cl.L = rowF (clG w.L (duF du.L)) 0 i.I.toNat ∧ op.L = rowF (opG c.I w.L (duF du.L)) 0 i.I.toNat))
      (.leaf (.exit 0, [.l du.L, .i 1, .i (w.L.length + 1 : Nat), .i w.L.length, .i w.L.length, .i ch.L.length, .l (rowF (clG w.L (duF du.L)) 0 w.L.length), .l (rowF (opG c.I w.L (duF du.L)) 0 w.L.length), .l ch.L]))
  | _ => .fail
end
end Go.Proofs.Ytipbcpobnciccaa
namespace Go.Proofs.Ytipbcpobnciccaa
open Go.Lite
noncomputable def sp57 : SpL := [(104, mkF s104 G104), (107, mkF s107 G107), (108, mkF s108 G108)]
noncomputable def lp57 : LpL := [(4, mkLK 3 l57_4 G57_4), (9, mkLK 3 l57_9 G57_9)]
noncomputable def sw57 : SwL := [(79, mkFW s79 G79), (68, mkFW s68 G68)]
noncomputable def tab57 : Tab := mkTab sp57 lp57 sw57
noncomputable def sp58 : SpL := [(67, mkF s67 Gcl1), (73, mkF s73 G73)]
noncomputable def lp58 : LpL := [(3, mkLK 1 l58_3 G58_3)]
noncomputable def sw58 : SwL := []
noncomputable def tab58 : Tab := mkTab sp58 lp58 sw58
noncomputable def sp67 : SpL := []
noncomputable def lp67 : LpL := []
noncomputable def sw67 : SwL := []
noncomputable def tab67 : Tab := mkTab sp67 lp67 sw67
end Go.Proofs.Ytipbcpobnciccaa
namespace Go.Proofs.Ytipbcpobnciccaa
open Go.Lite
set_option linter.unusedVariables false
set_option maxRecDepth 100000
theorem t57 (a b c d : D) : fnTD C tab57 3 57 s57 [a, b, c, d] =
  T.need (yes (planB a.I b.I c.L = true ∧ chOK c.L d.L)) (T.need (yes ((↑0 : Int) = (0 : Int) ∧ planB a.I b.I c.L = true ∧ rulesV c.L (rulesP b.I c.L d.L) ∧ (↑(Int.toNat (↑(List.length (rulesP b.I c.L d.L)) : Int)) : Int) = (↑(List.length (rulesP b.I c.L d.L)) : Int) ∧ (↑(Int.toNat (↑(List.length (rulesP b.I c.L d.L)) : Int)) : Int) = (↑(List.length (rulesP b.I c.L d.L)) : Int) ∧ (0 : Int) = (0 : Int) ∧ 0 < List.length (rulesP b.I c.L d.L))) (T.ite (allFrom (rulesK a.I c.L (rulesP b.I c.L d.L)) 0 (List.length (rulesP b.I c.L d.L))) (T.need (yes ((↑(0 + 1) : Int) = (1 : Int) ∧ (0 : Int) ≤ (0 : Int) ∧ (0 : Int) ≤ IntKind.wrap IntKind.i64 ((c.L.length : Int) + (2 : Int)) ∧ IntKind.wrap IntKind.i64 ((c.L.length : Int) + (2 : Int)) ≤ (500 : Int) ∧ (↑(Int.toNat (↑(List.length (linksU a.I c.L (rulesP b.I c.L d.L) 0 (List.length (rulesP b.I c.L d.L)))) : Int)) : Int) = (↑(List.length (linksU a.I c.L (rulesP b.I c.L d.L) 0 (List.length (rulesP b.I c.L d.L)))) : Int) ∧ (↑(List.length (linksU a.I c.L (rulesP b.I c.L d.L) 0 (List.length (rulesP b.I c.L d.L)))) : Int) + (IntKind.wrap IntKind.i64 ((c.L.length : Int) + (2 : Int)) - (0 : Int)) ≤ (5500 : Int))) (T.need (decide ((0 : Int) ≤ IntKind.wrap IntKind.i64 ((c.L.length : Int) + (2 : Int)) ∧ IntKind.wrap IntKind.i64 ((c.L.length : Int) + (2 : Int)) = IntKind.wrap IntKind.i64 ((c.L.length : Int) + (2 : Int)) ∧ IntKind.wrap IntKind.i64 ((c.L.length : Int) + (2 : Int)) ≤ (2 : Int) ^ 40 ∧ (↑Try.prog.types[3].bytes : Int) * IntKind.wrap IntKind.i64 ((c.L.length : Int) + (2 : Int)) ≤ (2 : Int) ^ 46)) (T.need (decide ((0 : Int) ≤ (1 : Int) ∧ (1 : Int) ≤ (↑(List.length (List.replicate (Int.toNat (IntKind.wrap IntKind.i64 ((c.L.length : Int) + (2 : Int)))) [D.i 0])) : Int))) (T.need (decide (Int.toNat (1 : Int) + (List.length (List.replicate (Int.toNat (IntKind.wrap IntKind.i64 ((c.L.length : Int) + (2 : Int)))) [D.i 0]) - Int.toNat (1 : Int)) ≤ List.length (List.replicate (Int.toNat (IntKind.wrap IntKind.i64 ((c.L.length : Int) + (2 : Int)))) [D.i 0]))) (T.need (decide (Int.toNat (↑(List.length (linksU a.I c.L (rulesP b.I c.L d.L) 0 (List.length (rulesP b.I c.L d.L)) ++ extraF (Int.toNat (0 : Int)) (Int.toNat (IntKind.wrap IntKind.i64 ((c.L.length : Int) + (2 : Int)) - (0 : Int))))) : Int) ≤ List.length (linksU a.I c.L (rulesP b.I c.L d.L) 0 (List.length (rulesP b.I c.L d.L)) ++ extraF (Int.toNat (0 : Int)) (Int.toNat (IntKind.wrap IntKind.i64 ((c.L.length : Int) + (2 : Int)) - (0 : Int)))))) (T.need (yes (goodL (IntKind.wrap IntKind.i64 ((c.L.length : Int) + (2 : Int))) (List.take (Int.toNat (↑(List.length (linksU a.I c.L (rulesP b.I c.L d.L) 0 (List.length (rulesP b.I c.L d.L)) ++ extraF (Int.toNat (0 : Int)) (Int.toNat (IntKind.wrap IntKind.i64 ((c.L.length : Int) + (2 : Int)) - (0 : Int))))) : Int)) (linksU a.I c.L (rulesP b.I c.L d.L) 0 (List.length (rulesP b.I c.L d.L)) ++ extraF (Int.toNat (0 : Int)) (Int.toNat (IntKind.wrap IntKind.i64 ((c.L.length : Int) + (2 : Int)) - (0 : Int))))) ∧ (↑(List.length (List.replicate (Int.toNat (IntKind.wrap IntKind.i64 ((c.L.length : Int) + (2 : Int)))) [D.i 0])) : Int) = IntKind.wrap IntKind.i64 ((c.L.length : Int) + (2 : Int)) ∧ (↑(List.length (cpy (List.replicate (Int.toNat (IntKind.wrap IntKind.i64 ((c.L.length : Int) + (2 : Int)))) [D.i 0]) [] (Int.toNat (1 : Int)) (List.length (List.replicate (Int.toNat (IntKind.wrap IntKind.i64 ((c.L.length : Int) + (2 : Int)))) [D.i 0]) - Int.toNat (1 : Int)))) : Int) = IntKind.wrap IntKind.i64 ((c.L.length : Int) + (2 : Int)) ∧ bndR (cpy (List.replicate (Int.toNat (IntKind.wrap IntKind.i64 ((c.L.length : Int) + (2 : Int)))) [D.i 0]) [] (Int.toNat (1 : Int)) (List.length (List.replicate (Int.toNat (IntKind.wrap IntKind.i64 ((c.L.length : Int) + (2 : Int)))) [D.i 0]) - Int.toNat (1 : Int))) (1099511627776 : Int))) (T.ite (decide ((pushR (IntKind.wrap IntKind.i64 ((c.L.length : Int) + (2 : Int))) (List.take (Int.toNat (↑(List.length (linksU a.I c.L (rulesP b.I c.L d.L) 0 (List.length (rulesP b.I c.L d.L)) ++ extraF (Int.toNat (0 : Int)) (Int.toNat (IntKind.wrap IntKind.i64 ((c.L.length : Int) + (2 : Int)) - (0 : Int))))) : Int)) (linksU a.I c.L (rulesP b.I c.L d.L) 0 (List.length (rulesP b.I c.L d.L)) ++ extraF (Int.toNat (0 : Int)) (Int.toNat (IntKind.wrap IntKind.i64 ((c.L.length : Int) + (2 : Int)) - (0 : Int))))) (cpy (List.replicate (Int.toNat (IntKind.wrap IntKind.i64 ((c.L.length : Int) + (2 : Int)))) [D.i 0]) [] (Int.toNat (1 : Int)) (List.length (List.replicate (Int.toNat (IntKind.wrap IntKind.i64 ((c.L.length : Int) + (2 : Int)))) [D.i 0]) - Int.toNat (1 : Int)))).snd.snd ≥ (0 : Int))) (T.leaf [D.i 0, D.b false]) (T.need (decide ((0 : Int) ≤ (0 : Int) ∧ (0 : Int) < (↑(List.length (List.replicate (Int.toNat (IntKind.wrap IntKind.i64 ((c.L.length : Int) + (2 : Int)))) [D.i 0])) : Int))) (T.need (decide (Int.toNat (0 : Int) < List.length (pushR (IntKind.wrap IntKind.i64 ((c.L.length : Int) + (2 : Int))) (List.take (Int.toNat (↑(List.length (linksU a.I c.L (rulesP b.I c.L d.L) 0 (List.length (rulesP b.I c.L d.L)) ++ extraF (Int.toNat (0 : Int)) (Int.toNat (IntKind.wrap IntKind.i64 ((c.L.length : Int) + (2 : Int)) - (0 : Int))))) : Int)) (linksU a.I c.L (rulesP b.I c.L d.L) 0 (List.length (rulesP b.I c.L d.L)) ++ extraF (Int.toNat (0 : Int)) (Int.toNat (IntKind.wrap IntKind.i64 ((c.L.length : Int) + (2 : Int)) - (0 : Int))))) (cpy (List.replicate (Int.toNat (IntKind.wrap IntKind.i64 ((c.L.length : Int) + (2 : Int)))) [D.i 0]) [] (Int.toNat (1 : Int)) (List.length (List.replicate (Int.toNat (IntKind.wrap IntKind.i64 ((c.L.length : Int) + (2 : Int)))) [D.i 0]) - Int.toNat (1 : Int)))).fst)) (T.ite (D.I (List.getD (List.getD (pushR (IntKind.wrap IntKind.i64 ((c.L.length : Int) + (2 : Int))) (List.take (Int.toNat (↑(List.length (linksU a.I c.L (rulesP b.I c.L d.L) 0 (List.length (rulesP b.I c.L d.L)) ++ extraF (Int.toNat (0 : Int)) (Int.toNat (IntKind.wrap IntKind.i64 ((c.L.length : Int) + (2 : Int)) - (0 : Int))))) : Int)) (linksU a.I c.L (rulesP b.I c.L d.L) 0 (List.length (rulesP b.I c.L d.L)) ++ extraF (Int.toNat (0 : Int)) (Int.toNat (IntKind.wrap IntKind.i64 ((c.L.length : Int) + (2 : Int)) - (0 : Int))))) (cpy (List.replicate (Int.toNat (IntKind.wrap IntKind.i64 ((c.L.length : Int) + (2 : Int)))) [D.i 0]) [] (Int.toNat (1 : Int)) (List.length (List.replicate (Int.toNat (IntKind.wrap IntKind.i64 ((c.L.length : Int) + (2 : Int)))) [D.i 0]) - Int.toNat (1 : Int)))).fst (Int.toNat (0 : Int)) []) 0 default) != (0 : Int)) (T.leaf [D.i 0, D.b false]) (T.need (decide ((0 : Int) ≤ (1 : Int) ∧ (1 : Int) ≤ (↑(List.length (List.replicate (Int.toNat (IntKind.wrap IntKind.i64 ((c.L.length : Int) + (2 : Int)))) [D.i 0])) : Int))) (T.leaf [D.i 1, D.i 1, D.i (↑(List.length (List.replicate (Int.toNat (IntKind.wrap IntKind.i64 ((c.L.length : Int) + (2 : Int)))) [D.i 0]) - Int.toNat (1 : Int)) : Int), D.b true, D.l (pushR (IntKind.wrap IntKind.i64 ((c.L.length : Int) + (2 : Int))) (List.take (Int.toNat (↑(List.length (linksU a.I c.L (rulesP b.I c.L d.L) 0 (List.length (rulesP b.I c.L d.L)) ++ extraF (Int.toNat (0 : Int)) (Int.toNat (IntKind.wrap IntKind.i64 ((c.L.length : Int) + (2 : Int)) - (0 : Int))))) : Int)) (linksU a.I c.L (rulesP b.I c.L d.L) 0 (List.length (rulesP b.I c.L d.L)) ++ extraF (Int.toNat (0 : Int)) (Int.toNat (IntKind.wrap IntKind.i64 ((c.L.length : Int) + (2 : Int)) - (0 : Int))))) (cpy (List.replicate (Int.toNat (IntKind.wrap IntKind.i64 ((c.L.length : Int) + (2 : Int)))) [D.i 0]) [] (Int.toNat (1 : Int)) (List.length (List.replicate (Int.toNat (IntKind.wrap IntKind.i64 ((c.L.length : Int) + (2 : Int)))) [D.i 0]) - Int.toNat (1 : Int)))).fst])))))))))))) (T.ite true (T.leaf [D.i 0, D.b false]) (T.leaf [D.i 0, D.b false])))) := by kernel_rfl
theorem t57_4_0 (a b c d e f g h i : D) : roundTK C tab57 57 (loopOf C.P 57 4) 3 l57_4 [.i 0, a, b, c, d, e, f, g, h, i] =
  T.ite (decide (c.I < b.I)) (T.need (decide ((0 : Int) ≤ c.I ∧ c.I < (a.I.toNat : Int))) (T.need (decide (c.I.toNat < i.L.length)) (T.ite (decide (D.I (List.getD (List.getD (D.L (List.getD (List.getD i.L c.I.toNat []) 0 default)) 0 []) 0 default) = (↑0 : Int))) (T.need true (T.ite false (T.leaf (Rd.again [D.i 0, D.i (a.I.toNat : Int), D.i b.I, D.i (IntKind.wrap IntKind.i64 (c.I + (1 : Int))), D.i d.I, D.i e.I, D.l f.L, D.b g.B, D.i h.I, D.l i.L])) (T.need true (T.leaf (Rd.again [D.i 1, D.i (a.I.toNat : Int), D.i b.I, D.i (IntKind.wrap IntKind.i64 (c.I + (1 : Int))), D.i d.I, D.i e.I, D.l f.L, D.b g.B, D.i h.I, D.i 1, D.l i.L, D.l [[D.i 0, D.i 1, D.i (D.I (List.getD (List.getD (D.L (List.getD (List.getD i.L c.I.toNat []) 0 default)) 0 []) 1 default))]]]))))) (T.ite (decide (D.I (List.getD (List.getD (D.L (List.getD (List.getD i.L c.I.toNat []) 0 default)) 0 []) 0 default) = (↑(0 + 1) : Int))) (T.need (yes (planB d.I e.I f.L = true ∧ (1 : Int) ≤ D.I (List.getD (List.getD (D.L (List.getD (List.getD i.L c.I.toNat []) 0 default)) 0 []) 1 default) ∧ D.I (List.getD (List.getD (D.L (List.getD (List.getD i.L c.I.toNat []) 0 default)) 0 []) 1 default) ≤ (f.L.length : Int))) (T.need true (T.ite false (T.leaf (Rd.again [D.i 0, D.i (a.I.toNat : Int), D.i b.I, D.i (IntKind.wrap IntKind.i64 (c.I + (1 : Int))), D.i d.I, D.i e.I, D.l f.L, D.b g.B, D.i h.I, D.l i.L])) (T.need true (T.leaf (Rd.again [D.i 1, D.i (a.I.toNat : Int), D.i b.I, D.i (IntKind.wrap IntKind.i64 (c.I + (1 : Int))), D.i d.I, D.i e.I, D.l f.L, D.b g.B, D.i h.I, D.i 2, D.l i.L, D.l [[D.i ((↑(Int.toNat (D.I (List.getD (List.getD (D.L (List.getD (List.getD i.L c.I.toNat []) 0 default)) 0 []) 1 default) - (1 : Int))) : Int) + (1 : Int)), D.i ((↑(Int.toNat (D.I (List.getD (List.getD (D.L (List.getD (List.getD i.L c.I.toNat []) 0 default)) 0 []) 1 default) - (1 : Int))) : Int) + (2 : Int)), D.i (leW d.I f.L (Int.toNat (D.I (List.getD (List.getD (D.L (List.getD (List.getD i.L c.I.toNat []) 0 default)) 0 []) 1 default) - (1 : Int))))], [D.i ((↑(Int.toNat (D.I (List.getD (List.getD (D.L (List.getD (List.getD i.L c.I.toNat []) 0 default)) 0 []) 1 default) - (1 : Int))) : Int) + (2 : Int)), D.i ((↑(Int.toNat (D.I (List.getD (List.getD (D.L (List.getD (List.getD i.L c.I.toNat []) 0 default)) 0 []) 1 default) - (1 : Int))) : Int) + (1 : Int)), D.i (-moW d.I f.L (Int.toNat (D.I (List.getD (List.getD (D.L (List.getD (List.getD i.L c.I.toNat []) 0 default)) 0 []) 1 default) - (1 : Int))))]]])))))) (T.need (decide (D.I (List.getD (List.getD (D.L (List.getD (List.getD i.L c.I.toNat []) 0 default)) 0 []) 0 default) = (↑(0 + 1 + 1) : Int))) (T.need (yes (planB d.I e.I f.L = true ∧ (0 : Int) ≤ D.I (List.getD (List.getD (D.L (List.getD (List.getD i.L c.I.toNat []) 0 default)) 0 []) 1 default) ∧ D.I (List.getD (List.getD (D.L (List.getD (List.getD i.L c.I.toNat []) 0 default)) 0 []) 1 default) < (f.L.length : Int) ∧ winOk (D.L (List.getD (List.getD (D.L (List.getD (List.getD i.L c.I.toNat []) 0 default)) 0 []) (1 + 1) default)))) (T.ite (List.isEmpty (D.L (List.getD (List.getD (D.L (List.getD (List.getD i.L c.I.toNat []) 0 default)) 0 []) (1 + 1) default))) (T.need true (T.ite false (T.leaf (Rd.again [D.i 0, D.i (a.I.toNat : Int), D.i b.I, D.i (IntKind.wrap IntKind.i64 (c.I + (1 : Int))), D.i d.I, D.i e.I, D.l f.L, D.b g.B, D.i h.I, D.l i.L])) (T.need true (T.leaf (Rd.again [D.i 1, D.i (a.I.toNat : Int), D.i b.I, D.i (IntKind.wrap IntKind.i64 (c.I + (1 : Int))), D.i d.I, D.i e.I, D.l f.L, D.b g.B, D.i h.I, D.i 1, D.l i.L, D.l [[D.i 0, D.i (D.I (List.getD (List.getD (D.L (List.getD (List.getD i.L c.I.toNat []) 0 default)) 0 []) 1 default) + (1 : Int)), D.i (ix (List.getD f.L (Int.toNat (D.I (List.getD (List.getD (D.L (List.getD (List.getD i.L c.I.toNat []) 0 default)) 0 []) 1 default))) []) 1)]]]))))) (T.ite (decide (ix (List.getD f.L (Int.toNat (D.I (List.getD (List.getD (D.L (List.getD (List.getD i.L c.I.toNat []) 0 default)) 0 []) 1 default))) []) 1 + busyF d.I (List.getD f.L (Int.toNat (D.I (List.getD (List.getD (D.L (List.getD (List.getD i.L c.I.toNat []) 0 default)) 0 []) 1 default))) []) > ix (List.getD (D.L (List.getD (List.getD (D.L (List.getD (List.getD i.L c.I.toNat []) 0 default)) 0 []) (1 + 1) default)) 0 []) 2)) (T.leaf (Rd.out (Ex.pan 105) [D.i d.I, D.i e.I, D.l f.L, D.b g.B])) (T.need true (T.ite false (T.leaf (Rd.again [D.i 0, D.i (a.I.toNat : Int), D.i b.I, D.i (IntKind.wrap IntKind.i64 (c.I + (1 : Int))), D.i d.I, D.i e.I, D.l f.L, D.b g.B, D.i h.I, D.l i.L])) (T.need true (T.leaf (Rd.again [D.i 1, D.i (a.I.toNat : Int), D.i b.I, D.i (IntKind.wrap IntKind.i64 (c.I + (1 : Int))), D.i d.I, D.i e.I, D.l f.L, D.b g.B, D.i h.I, D.i 2, D.l i.L, D.l [[D.i 0, D.i (D.I (List.getD (List.getD (D.L (List.getD (List.getD i.L c.I.toNat []) 0 default)) 0 []) 1 default) + (1 : Int)), D.i (ix (List.getD f.L (Int.toNat (D.I (List.getD (List.getD (D.L (List.getD (List.getD i.L c.I.toNat []) 0 default)) 0 []) 1 default))) []) 1 + ix (List.getD (D.L (List.getD (List.getD (D.L (List.getD (List.getD i.L c.I.toNat []) 0 default)) 0 []) (1 + 1) default)) 0 []) 0)], [D.i (D.I (List.getD (List.getD (D.L (List.getD (List.getD i.L c.I.toNat []) 0 default)) 0 []) 1 default) + (1 : Int)), D.i 0, D.i (busyF d.I (List.getD f.L (Int.toNat (D.I (List.getD (List.getD (D.L (List.getD (List.getD i.L c.I.toNat []) 0 default)) 0 []) 1 default))) []) - ix (List.getD (D.L (List.getD (List.getD (D.L (List.getD (List.getD i.L c.I.toNat []) 0 default)) 0 []) (1 + 1) default)) 0 []) 1)]]]))))))))))))) (T.leaf (Rd.out (Ex.exit 0) [D.i 0, D.i d.I, D.i e.I, D.l f.L, D.b g.B, D.i h.I])) := by kernel_rfl
theorem t57_4_1 (a b c d e f g h i j k : D) : roundTK C tab57 57 (loopOf C.P 57 4) 3 l57_4 [.i 1, a, b, c, d, e, f, g, h, i, j, k] =
  T.ite (decide (c.I < b.I)) (T.need (decide ((0 : Int) ≤ c.I ∧ c.I < (a.I.toNat : Int))) (T.need (decide (c.I.toNat < j.L.length)) (T.ite (decide (D.I (List.getD (List.getD (D.L (List.getD (List.getD j.L c.I.toNat []) 0 default)) 0 []) 0 default) = (↑0 : Int))) (T.need true (T.ite false (T.leaf (Rd.again [D.i 1, D.i (a.I.toNat : Int), D.i b.I, D.i (IntKind.wrap IntKind.i64 (c.I + (1 : Int))), D.i d.I, D.i e.I, D.l f.L, D.b g.B, D.i h.I, D.i (i.I.toNat : Int), D.l j.L, D.l k.L])) (T.need (decide (i.I.toNat ≤ k.L.length ∧ i.I.toNat + 1 ≤ 2 ^ 62 ∧ (i.I.toNat + 1) * Try.prog.types[58].bytes ≤ 2 ^ 47)) (T.leaf (Rd.again [D.i 1, D.i (a.I.toNat : Int), D.i b.I, D.i (IntKind.wrap IntKind.i64 (c.I + (1 : Int))), D.i d.I, D.i e.I, D.l f.L, D.b g.B, D.i h.I, D.i (↑(i.I.toNat + 1) : Int), D.l j.L, D.l (List.take i.I.toNat k.L ++ List.take (Int.toNat (1 : Int)) [lk3 (0 : Int) (1 : Int) (D.I (List.getD (List.getD (D.L (List.getD (List.getD j.L c.I.toNat []) 0 default)) 0 []) 1 default))])]))))) (T.ite (decide (D.I (List.getD (List.getD (D.L (List.getD (List.getD j.L c.I.toNat []) 0 default)) 0 []) 0 default) = (↑(0 + 1) : Int))) (T.need (yes (planB d.I e.I f.L = true ∧ (1 : Int) ≤ D.I (List.getD (List.getD (D.L (List.getD (List.getD j.L c.I.toNat []) 0 default)) 0 []) 1 default) ∧ D.I (List.getD (List.getD (D.L (List.getD (List.getD j.L c.I.toNat []) 0 default)) 0 []) 1 default) ≤ (f.L.length : Int))) (T.need true (T.ite false (T.leaf (Rd.again [D.i 1, D.i (a.I.toNat : Int), D.i b.I, D.i (IntKind.wrap IntKind.i64 (c.I + (1 : Int))), D.i d.I, D.i e.I, D.l f.L, D.b g.B, D.i h.I, D.i (i.I.toNat : Int), D.l j.L, D.l k.L])) (T.need (decide (i.I.toNat ≤ k.L.length ∧ i.I.toNat + 2 ≤ 2 ^ 62 ∧ (i.I.toNat + 2) * Try.prog.types[58].bytes ≤ 2 ^ 47)) (T.leaf (Rd.again [D.i 1, D.i (a.I.toNat : Int), D.i b.I, D.i (IntKind.wrap IntKind.i64 (c.I + (1 : Int))), D.i d.I, D.i e.I, D.l f.L, D.b g.B, D.i h.I, D.i (↑(i.I.toNat + 2) : Int), D.l j.L, D.l (List.take i.I.toNat k.L ++ List.take (Int.toNat (2 : Int)) (afterL d.I f.L (Int.toNat (D.I (List.getD (List.getD (D.L (List.getD (List.getD j.L c.I.toNat []) 0 default)) 0 []) 1 default) - (1 : Int)))))])))))) (T.need (decide (D.I (List.getD (List.getD (D.L (List.getD (List.getD j.L c.I.toNat []) 0 default)) 0 []) 0 default) = (↑(0 + 1 + 1) : Int))) (T.need (yes (planB d.I e.I f.L = true ∧ (0 : Int) ≤ D.I (List.getD (List.getD (D.L (List.getD (List.getD j.L c.I.toNat []) 0 default)) 0 []) 1 default) ∧ D.I (List.getD (List.getD (D.L (List.getD (List.getD j.L c.I.toNat []) 0 default)) 0 []) 1 default) < (f.L.length : Int) ∧ winOk (D.L (List.getD (List.getD (D.L (List.getD (List.getD j.L c.I.toNat []) 0 default)) 0 []) (1 + 1) default)))) (T.ite (List.isEmpty (D.L (List.getD (List.getD (D.L (List.getD (List.getD j.L c.I.toNat []) 0 default)) 0 []) (1 + 1) default))) (T.need true (T.ite false (T.leaf (Rd.again [D.i 1, D.i (a.I.toNat : Int), D.i b.I, D.i (IntKind.wrap IntKind.i64 (c.I + (1 : Int))), D.i d.I, D.i e.I, D.l f.L, D.b g.B, D.i h.I, D.i (i.I.toNat : Int), D.l j.L, D.l k.L])) (T.need (decide (i.I.toNat ≤ k.L.length ∧ i.I.toNat + 1 ≤ 2 ^ 62 ∧ (i.I.toNat + 1) * Try.prog.types[58].bytes ≤ 2 ^ 47)) (T.leaf (Rd.again [D.i 1, D.i (a.I.toNat : Int), D.i b.I, D.i (IntKind.wrap IntKind.i64 (c.I + (1 : Int))), D.i d.I, D.i e.I, D.l f.L, D.b g.B, D.i h.I, D.i (↑(i.I.toNat + 1) : Int), D.l j.L, D.l (List.take i.I.toNat k.L ++ List.take (Int.toNat (1 : Int)) [lk3 (0 : Int) (D.I (List.getD (List.getD (D.L (List.getD (List.getD j.L c.I.toNat []) 0 default)) 0 []) 1 default) + (1 : Int)) (ix (List.getD f.L (Int.toNat (D.I (List.getD (List.getD (D.L (List.getD (List.getD j.L c.I.toNat []) 0 default)) 0 []) 1 default))) []) 1)])]))))) (T.ite (decide (ix (List.getD f.L (Int.toNat (D.I (List.getD (List.getD (D.L (List.getD (List.getD j.L c.I.toNat []) 0 default)) 0 []) 1 default))) []) 1 + busyF d.I (List.getD f.L (Int.toNat (D.I (List.getD (List.getD (D.L (List.getD (List.getD j.L c.I.toNat []) 0 default)) 0 []) 1 default))) []) > ix (List.getD (D.L (List.getD (List.getD (D.L (List.getD (List.getD j.L c.I.toNat []) 0 default)) 0 []) (1 + 1) default)) 0 []) 2)) (T.leaf (Rd.out (Ex.pan 105) [D.i d.I, D.i e.I, D.l f.L, D.b g.B])) (T.need true (T.ite false (T.leaf (Rd.again [D.i 1, D.i (a.I.toNat : Int), D.i b.I, D.i (IntKind.wrap IntKind.i64 (c.I + (1 : Int))), D.i d.I, D.i e.I, D.l f.L, D.b g.B, D.i h.I, D.i (i.I.toNat : Int), D.l j.L, D.l k.L])) (T.need (decide (i.I.toNat ≤ k.L.length ∧ i.I.toNat + 2 ≤ 2 ^ 62 ∧ (i.I.toNat + 2) * Try.prog.types[58].bytes ≤ 2 ^ 47)) (T.leaf (Rd.again [D.i 1, D.i (a.I.toNat : Int), D.i b.I, D.i (IntKind.wrap IntKind.i64 (c.I + (1 : Int))), D.i d.I, D.i e.I, D.l f.L, D.b g.B, D.i h.I, D.i (↑(i.I.toNat + 2) : Int), D.l j.L, D.l (List.take i.I.toNat k.L ++ List.take (Int.toNat (2 : Int)) [lk3 (0 : Int) (D.I (List.getD (List.getD (D.L (List.getD (List.getD j.L c.I.toNat []) 0 default)) 0 []) 1 default) + (1 : Int)) (ix (List.getD f.L (Int.toNat (D.I (List.getD (List.getD (D.L (List.getD (List.getD j.L c.I.toNat []) 0 default)) 0 []) 1 default))) []) 1 + ix (List.getD (D.L (List.getD (List.getD (D.L (List.getD (List.getD j.L c.I.toNat []) 0 default)) 0 []) (1 + 1) default)) 0 []) 0), lk3 (D.I (List.getD (List.getD (D.L (List.getD (List.getD j.L c.I.toNat []) 0 default)) 0 []) 1 default) + (1 : Int)) (0 : Int) (busyF d.I (List.getD f.L (Int.toNat (D.I (List.getD (List.getD (D.L (List.getD (List.getD j.L c.I.toNat []) 0 default)) 0 []) 1 default))) []) - ix (List.getD (D.L (List.getD (List.getD (D.L (List.getD (List.getD j.L c.I.toNat []) 0 default)) 0 []) (1 + 1) default)) 0 []) 1)])]))))))))))))) (T.leaf (Rd.out (Ex.exit 0) [D.i 1, D.i d.I, D.i e.I, D.l f.L, D.b g.B, D.i h.I, D.i (i.I.toNat : Int), D.l k.L])) := by kernel_rfl
theorem t57_9_1 (a b c d e f g h i : D) : roundTK C tab57 57 (loopOf C.P 57 9) 3 l57_9 [.i 1, a, b, c, d, e, f, g, h, i] =
  T.ite (decide (b.I < a.I)) (T.need true (T.ite false (T.leaf (Rd.again [D.i 1, D.i a.I, D.i (IntKind.wrap IntKind.i64 (b.I + (1 : Int))), D.i c.I, D.i d.I, D.l e.L, D.b f.B, D.i g.I, D.i (h.I.toNat : Int), D.l i.L])) (T.need (decide (h.I.toNat ≤ i.L.length ∧ h.I.toNat + 1 ≤ 2 ^ 62 ∧ (h.I.toNat + 1) * Try.prog.types[58].bytes ≤ 2 ^ 47)) (T.leaf (Rd.again [D.i 1, D.i a.I, D.i (IntKind.wrap IntKind.i64 (b.I + (1 : Int))), D.i c.I, D.i d.I, D.l e.L, D.b f.B, D.i g.I, D.i (↑(h.I.toNat + 1) : Int), D.l (List.take h.I.toNat i.L ++ List.take (List.length [[D.i 0, D.i b.I, D.i 0]]) [[D.i 0, D.i b.I, D.i 0]])]))))) (T.leaf (Rd.out (Ex.exit 2) [D.i 1, D.i c.I, D.i d.I, D.l e.L, D.b f.B, D.i g.I, D.i (h.I.toNat : Int), D.l i.L])) := by kernel_rfl
theorem t58 (a b c d e f g : D) : fnTW C tab58 58 s58 [a, b, c, d, e, f, g] =
  T.need (yes (d.L ≠ [] ∧ d.L.length ≤ 1073741824)) (T.need (yes ((↑0 : Int) = (0 : Int) ∧ planB a.I b.I c.L = true ∧ (e.I.toNat : Int) = (1 : Int) ∧ (f.I.toNat : Int) = (c.L.length : Int) + (1 : Int) ∧ c.L = c.L ∧ (c.L.length : Int) = (c.L.length : Int) ∧ (0 : Int) = (0 : Int) ∧ duOK c.L g.L ∧ (e.I.toNat : Int) = (1 : Int) ∧ (f.I.toNat : Int) = (c.L.length : Int) + (1 : Int) ∧ (↑(Int.toNat (d.L.length : Int)) : Int) = (d.L.length : Int))) (T.leaf [D.i 1, D.i (↑(Int.toNat (↑(c.L.length + 1) : Int)) : Int), D.i (↑(Int.toNat (c.L.length : Int)) : Int), D.i (↑(Int.toNat (c.L.length : Int)) : Int), D.i (↑(Int.toNat (d.L.length : Int)) : Int), D.l g.L, D.l (rowF (clG c.L (duF g.L)) 0 c.L.length), D.l (rowF (opG a.I c.L (duF g.L)) 0 c.L.length), D.l d.L])) := by kernel_rfl
theorem t58_3_0 (a b c d e f g h i j k l m : D) : roundTK C tab58 58 (loopOf C.P 58 3) 1 l58_3 [.i 0, a, b, c, d, e, f, g, h, i, j, k, l, m] =
  T.ite (decide (e.I < d.I)) (T.need (decide ((0 : Int) ≤ e.I ∧ e.I < (c.L.length : Int))) (T.need (decide ((0 : Int) ≤ e.I ∧ e.I < (b.I.toNat : Int))) (T.need (decide (a.I.toNat + e.I.toNat < f.L.length)) (T.need true (T.ite false (T.need (decide ((0 : Int) ≤ e.I ∧ e.I < (b.I.toNat : Int))) (T.need (decide (a.I.toNat + e.I.toNat < f.L.length)) (T.need (yes (planB g.I h.I i.L = true ∧ (0 : Int) ≤ e.I ∧ e.I < (i.L.length : Int))) (T.need true (T.ite false (T.leaf (Rd.again [D.i 0, D.i (a.I.toNat : Int), D.i (b.I.toNat : Int), D.l c.L, D.i d.I, D.i (IntKind.wrap IntKind.i64 (e.I + (1 : Int))), D.l f.L, D.i g.I, D.i h.I, D.l i.L, D.i (j.I.toNat : Int), D.i (k.I.toNat : Int), D.i (l.I.toNat : Int), D.l m.L])) (T.need true T.fail)))))) (T.need true (T.need (decide ((0 : Int) ≤ e.I ∧ e.I < (b.I.toNat : Int))) (T.need (decide (a.I.toNat + e.I.toNat < f.L.length)) (T.need (yes (planB g.I h.I i.L = true ∧ (0 : Int) ≤ e.I ∧ e.I < (i.L.length : Int))) (T.need true (T.ite false T.fail (T.need true (T.leaf (Rd.again [D.i 1, D.i (a.I.toNat : Int), D.i (b.I.toNat : Int), D.l c.L, D.i d.I, D.i (IntKind.wrap IntKind.i64 (e.I + (1 : Int))), D.l f.L, D.i g.I, D.i h.I, D.l i.L, D.i (j.I.toNat : Int), D.i (k.I.toNat : Int), D.i 1, D.i 1, D.i (l.I.toNat : Int), D.l [[D.i (IntKind.wrap IntKind.i64 (D.I (List.getD (List.getD f.L (a.I.toNat + e.I.toNat) []) 0 default) - D.I (List.getD (List.getD c.L e.I.toNat []) (0 + 1) default)))]], D.l [[D.i (IntKind.wrap IntKind.i64 (D.I (List.getD (List.getD f.L (a.I.toNat + e.I.toNat) []) 0 default) + busyF g.I (List.getD i.L e.I.toNat [])))]], D.l m.L])))))))))))))) T.fail := by kernel_rfl
theorem t58_3_1 (a b c d e f g h i j k l m n o p q : D) : roundTK C tab58 58 (loopOf C.P 58 3) 1 l58_3 [.i 1, a, b, c, d, e, f, g, h, i, j, k, l, m, n, o, p, q] =
  T.ite (decide (e.I < d.I)) (T.need (decide ((0 : Int) ≤ e.I ∧ e.I < (c.L.length : Int))) (T.need (decide ((0 : Int) ≤ e.I ∧ e.I < (b.I.toNat : Int))) (T.need (decide (a.I.toNat + e.I.toNat < f.L.length)) (T.need true (T.ite false (T.need (decide ((0 : Int) ≤ e.I ∧ e.I < (b.I.toNat : Int))) (T.need (decide (a.I.toNat + e.I.toNat < f.L.length)) (T.need (yes (planB g.I h.I i.L = true ∧ (0 : Int) ≤ e.I ∧ e.I < (i.L.length : Int))) (T.need true (T.ite false (T.leaf (Rd.again [D.i 1, D.i (a.I.toNat : Int), D.i (b.I.toNat : Int), D.l c.L, D.i d.I, D.i (IntKind.wrap IntKind.i64 (e.I + (1 : Int))), D.l f.L, D.i g.I, D.i h.I, D.l i.L, D.i (j.I.toNat : Int), D.i (k.I.toNat : Int), D.i (l.I.toNat : Int), D.i (m.I.toNat : Int), D.i (n.I.toNat : Int), D.l o.L, D.l p.L, D.l q.L])) (T.need (decide (m.I.toNat ≤ p.L.length ∧ m.I.toNat + 1 ≤ 2 ^ 62 ∧ (m.I.toNat + 1) * Try.prog.types[3].bytes ≤ 2 ^ 47)) (T.leaf (Rd.again [D.i 1, D.i (a.I.toNat : Int), D.i (b.I.toNat : Int), D.l c.L, D.i d.I, D.i (IntKind.wrap IntKind.i64 (e.I + (1 : Int))), D.l f.L, D.i g.I, D.i h.I, D.l i.L, D.i (j.I.toNat : Int), D.i (k.I.toNat : Int), D.i (l.I.toNat : Int), D.i (↑(m.I.toNat + 1) : Int), D.i (n.I.toNat : Int), D.l o.L, D.l (List.take m.I.toNat p.L ++ List.take (List.length [[D.i (IntKind.wrap IntKind.i64 (D.I (List.getD (List.getD f.L (a.I.toNat + e.I.toNat) []) 0 default) + busyF g.I (List.getD i.L e.I.toNat [])))]]) [[D.i (IntKind.wrap IntKind.i64 (D.I (List.getD (List.getD f.L (a.I.toNat + e.I.toNat) []) 0 default) + busyF g.I (List.getD i.L e.I.toNat [])))]]), D.l q.L])))))))) (T.need (decide (l.I.toNat ≤ o.L.length ∧ l.I.toNat + 1 ≤ 2 ^ 62 ∧ (l.I.toNat + 1) * Try.prog.types[3].bytes ≤ 2 ^ 47)) (T.need (decide ((0 : Int) ≤ e.I ∧ e.I < (b.I.toNat : Int))) (T.need (decide (a.I.toNat + e.I.toNat < f.L.length)) (T.need (yes (planB g.I h.I i.L = true ∧ (0 : Int) ≤ e.I ∧ e.I < (i.L.length : Int))) (T.need true (T.ite false (T.leaf (Rd.again [D.i 1, D.i (a.I.toNat : Int), D.i (b.I.toNat : Int), D.l c.L, D.i d.I, D.i (IntKind.wrap IntKind.i64 (e.I + (1 : Int))), D.l f.L, D.i g.I, D.i h.I, D.l i.L, D.i (j.I.toNat : Int), D.i (k.I.toNat : Int), D.i (↑(l.I.toNat + 1) : Int), D.i (m.I.toNat : Int), D.i (n.I.toNat : Int), D.l (List.take l.I.toNat o.L ++ List.take (List.length [[D.i (IntKind.wrap IntKind.i64 (D.I (List.getD (List.getD f.L (a.I.toNat + e.I.toNat) []) 0 default) - D.I (List.getD (List.getD c.L e.I.toNat []) (0 + 1) default)))]]) [[D.i (IntKind.wrap IntKind.i64 (D.I (List.getD (List.getD f.L (a.I.toNat + e.I.toNat) []) 0 default) - D.I (List.getD (List.getD c.L e.I.toNat []) (0 + 1) default)))]]), D.l p.L, D.l q.L])) (T.need (decide (m.I.toNat ≤ p.L.length ∧ m.I.toNat + 1 ≤ 2 ^ 62 ∧ (m.I.toNat + 1) * Try.prog.types[3].bytes ≤ 2 ^ 47)) (T.leaf (Rd.again [D.i 1, D.i (a.I.toNat : Int), D.i (b.I.toNat : Int), D.l c.L, D.i d.I, D.i (IntKind.wrap IntKind.i64 (e.I + (1 : Int))), D.l f.L, D.i g.I, D.i h.I, D.l i.L, D.i (j.I.toNat : Int), D.i (k.I.toNat : Int), D.i (↑(l.I.toNat + 1) : Int), D.i (↑(m.I.toNat + 1) : Int), D.i (n.I.toNat : Int), D.l (List.take l.I.toNat o.L ++ List.take (List.length [[D.i (IntKind.wrap IntKind.i64 (D.I (List.getD (List.getD f.L (a.I.toNat + e.I.toNat) []) 0 default) - D.I (List.getD (List.getD c.L e.I.toNat []) (0 + 1) default)))]]) [[D.i (IntKind.wrap IntKind.i64 (D.I (List.getD (List.getD f.L (a.I.toNat + e.I.toNat) []) 0 default) - D.I (List.getD (List.getD c.L e.I.toNat []) (0 + 1) default)))]]), D.l (List.take m.I.toNat p.L ++ List.take (List.length [[D.i (IntKind.wrap IntKind.i64 (D.I (List.getD (List.getD f.L (a.I.toNat + e.I.toNat) []) 0 default) + busyF g.I (List.getD i.L e.I.toNat [])))]]) [[D.i (IntKind.wrap IntKind.i64 (D.I (List.getD (List.getD f.L (a.I.toNat + e.I.toNat) []) 0 default) + busyF g.I (List.getD i.L e.I.toNat [])))]]), D.l q.L])))))))))))))) (T.leaf (Rd.out (Ex.exit 0) [D.l f.L, D.i (j.I.toNat : Int), D.i (k.I.toNat : Int), D.i (l.I.toNat : Int), D.i (m.I.toNat : Int), D.i (n.I.toNat : Int), D.l o.L, D.l p.L, D.l q.L])) := by kernel_rfl
theorem t67 (a : D) : fnT C tab67 67 s67 [a] =
  T.need (!List.isEmpty a.L) (T.ite (List.isEmpty a.L) (T.leaf [D.i 1]) (T.need (decide (a.L.length ≤ 2 ^ 62 ∧ a.L.length * Try.prog.types[3].bytes ≤ 2 ^ 47)) (T.leaf [D.i 0, D.i (a.L.length : Int), D.l a.L]))) := by kernel_rfl
end Go.Proofs.Ytipbcpobnciccaa
namespace Go.Proofs.Ytipbcpobnciccaa
open Go.Lite
set_option maxRecDepth 100000
def solD (c f : Int) (w ch : List (List D)) (d : Nat → Int) : Prop :=
  f ≤ d 0 ∧ (∀ j, 0 ≤ d j) ∧ ∀ j, j < w.length → d j + leW c w j ≤ d (j + 1) ∧ d (j + 1) - moW c w j ≤ d j ∧ ix (w.getD j []) 1 + fromF w ch j ≤ d j
def shiftD (d : Nat → Int) : Nat → Int
  | 0 => 0
  | j + 1 => d j
def endsD (c : Int) (w ch : List (List D)) (d : Nat → Int) : Prop := ∀ j, j < w.length → 0 ≤ rg ch j → d j + busyF c (w.getD j []) ≤ ix (winF w ch j) 1
theorem kept_sol {u : Bool} {c f : Int} {w ch : List (List D)} {d : Nat → Int} (h0 : ∀ j, 0 ≤ d j) : (netN (nP w) (allL (nP w) (linksP u c f w ch))).kept (shiftD d) ↔ solD c f w ch d ∧ (u = true → endsD c w ch d) := by
  rw [kept_plan]
  unfold keptJ solD endsD
  simp only [shiftD, Int.zero_add]
  constructor
  · rintro ⟨h1, h2, -⟩
    refine ⟨⟨h1, h0, fun j hj => ?_⟩, fun hu j hj hc => ?_⟩
    · obtain ⟨a, b, c, -⟩ := h2 j hj
      exact ⟨a, b, c⟩
    · obtain ⟨-, -, -, e⟩ := h2 j hj
      have := e hu hc
      omega
  · rintro ⟨⟨h1, -, h2⟩, h3⟩
    refine ⟨h1, fun j hj => ?_, fun j _ => ?_⟩
    · obtain ⟨a, b, c⟩ := h2 j hj
      exact ⟨a, b, c, fun hu hc => by have := h3 hu j hj hc; omega⟩
    · cases j with
      | zero => exact Int.le_refl _
      | succ j => exact h0 j
theorem kept_shift {u : Bool} {c f : Int} {w ch : List (List D)} {p : Nat → Int} (h0 : p 0 = 0) (h : (netN (nP w) (allL (nP w) (linksP u c f w ch))).kept p) (hn : ∀ j, 0 ≤ p j) : solD c f w ch (fun j => p (j + 1)) ∧ (u = true → endsD c w ch fun j => p (j + 1)) := by
  rw [← kept_sol (fun j => hn _)]
  rw [kept_plan] at h ⊢
  have e : ∀ j, shiftD (fun j => p (j + 1)) j = p j := fun j => by cases j with
    | zero => exact h0.symm
    | succ j => rfl
  unfold keptJ at h ⊢
  simp only [e]
  exact h
section
variable {c f : Int} {w ch : List (List D)}
theorem hours_of {l : List (List D)} (h : hours l = true) {k : Nat} (hk : k < l.length) : (0 ≤ ix (l.getD k []) 0 ∧ ix (l.getD k []) 0 ≤ ix (l.getD k []) 1) ∧ ix (l.getD k []) 1 ≤ 200000 ∧ 0 ≤ ix (l.getD k []) 2 ∧ ix (l.getD k []) 2 ≤ 200000 := by
  unfold hours at h
  exact of_decide_eq_true (allFrom_iff.1 h k (Nat.zero_le _) (by omega))
theorem win_of (hp : planB c f w = true) (hc : chOK w ch) {j : Nat} (hj : j < w.length) (h0 : 0 ≤ rg ch j) : (0 ≤ ix (winF w ch j) 0 ∧ ix (winF w ch j) 0 ≤ ix (winF w ch j) 1) ∧ ix (winF w ch j) 1 ≤ 200000 ∧ 0 ≤ ix (winF w ch j) 2 ∧ ix (winF w ch j) 2 ≤ 200000 := by
  have h1 := hc.2 j hj
  split at h1
  · omega
  · exact hours_of (way_of hp hj).2 (by omega)
theorem from_of (hp : planB c f w = true) (hc : chOK w ch) {j : Nat} (hj : j < w.length) : 0 ≤ fromF w ch j ∧ fromF w ch j ≤ 200000 := by
  unfold fromF
  split
  · have := win_of hp hc hj (by assumption)
    omega
  · omega
theorem lemo_of (hp : planB c f w = true) {j : Nat} (hj : j < w.length) : 0 ≤ leW c w j ∧ leW c w j ≤ moW c w j ∧ moW c w j ≤ 14000 := by
  have h1 := wayC_of (way_of hp hj).1
  have h2 := span_of hp hj
  unfold leW moW
  by_cases hg : j + 1 < w.length ∧ bx (w.getD (j + 1) []) 4 = true
  · have h3 := wayC_of (way_of hp hg.1).1
    rw [if_pos hg, if_pos hg]
    omega
  · rw [if_neg hg, if_neg hg]
    omega
theorem busy_of (hp : planB c f w = true) {j : Nat} (hj : j < w.length) : 0 ≤ busyF c (w.getD j []) ∧ busyF c (w.getD j []) ≤ 14000 := by
  have h1 := wayC_of (way_of hp hj).1
  have h2 := span_of hp hj
  unfold busyF
  omega
def qD (c : Int) (w : List (List D)) : Nat → Int
  | 0 => 300000
  | j + 1 => if j < w.length then qD c w j + leW c w j else 300000
theorem qD_rng (hp : planB c f w = true) : ∀ j, 300000 ≤ qD c w j ∧ qD c w j ≤ 300000 + 14000 * j
  | 0 => by simp [qD]
  | j + 1 => by
    have := qD_rng hp j
    simp only [qD]
    split
    · have := lemo_of hp (j := j) (by assumption)
      omega
    · omega
theorem qD_sol (hp : planB c f w = true) (hc : chOK w ch) : solD c f w ch (qD c w) := by
  obtain ⟨-, -, p1, p2⟩ := plan_of hp
  refine ⟨by simp only [qD]; omega, fun j => by have := qD_rng hp j; omega, fun j hj => ?_⟩
  have h1 := lemo_of hp hj
  have h2 := qD_rng hp j
  have h3 := from_of hp hc hj
  have h4 := wayC_of (way_of hp hj).1
  simp only [qD]
  rw [if_pos hj]
  omega
theorem len_linksF (u : Bool) : ∀ (k i : Nat), (linksF u c w ch i k).length ≤ 4 * k
  | 0, _ => by simp [linksF]
  | k + 1, i => by
    have h1 := len_linksF u k (i + 1)
    have h2 : (linkJ u c w ch i).length ≤ 4 := by
      unfold linkJ afterL closL
      split
      · cases u <;> simp
      · simp
    simp only [linksF, List.length_append]
    omega
theorem net_plan (u : Bool) (hp : planB c f w = true) (hc : chOK w ch) : netP (nP w) (linksP u c f w ch) := by
  obtain ⟨p0, p1, p2, p3⟩ := plan_of hp
  have hl := len_linksF (c := c) (w := w) (ch := ch) u w.length 0
  unfold netP netOk
  simp only [Bool.and_eq_true, Lite.within_iff, decide_eq_true_eq, allFrom_iff]
  refine ⟨⟨by unfold nP; omega, by unfold linksP; simp only [List.length_cons]; omega⟩, fun i _ hi => ?_⟩
  have key : ∀ x ∈ linksP u c f w ch, linkP (nP w) (ix x 0) (ix x 1) (ix x 2) = true := by
    have g : ∀ a b y : Int, linkP (nP w) (ix (lk3 a b y) 0) (ix (lk3 a b y) 1) (ix (lk3 a b y) 2) = linkP (nP w) a b y := fun _ _ _ => rfl
    have g2 : ∀ a b y : Int, (0 ≤ a ∧ a ≤ w.length + 1) → (0 ≤ b ∧ b ≤ w.length + 1) → (-1000000 ≤ y ∧ y ≤ 1000000) → linkP (nP w) a b y = true := fun a b y h1 h2 h3 => by
      unfold linkP nP
      simp only [Bool.and_eq_true, Lite.within_iff]
      omega
    intro x hx
    unfold linksP at hx
    rw [List.mem_cons, mem_linksF] at hx
    rcases hx with rfl | ⟨j, -, hj, hx⟩
    · rw [g]
      exact g2 _ _ _ (by omega) (by omega) (by omega)
    · have hjl : j < w.length := by omega
      have h1 := lemo_of hp hjl
      have h2 := busy_of hp hjl
      have h3 := wayC_of (way_of hp hjl).1
      unfold linkJ afterL closL at hx
      rw [List.mem_append, List.mem_cons, List.mem_cons] at hx
      rcases hx with (rfl | rfl | hx) | hx
      · rw [g]; exact g2 _ _ _ (by omega) (by omega) (by omega)
      · rw [g]; exact g2 _ _ _ (by omega) (by omega) (by omega)
      · cases hx
      · by_cases h0 : 0 ≤ rg ch j
        · have h4 := win_of hp hc hjl h0
          rw [if_pos h0, List.mem_cons] at hx
          rcases hx with rfl | hx
          · rw [g]; exact g2 _ _ _ (by omega) (by omega) (by omega)
          · cases u with
            | false => cases hx
            | true =>
              simp only [if_true, List.mem_cons, List.not_mem_nil, or_false] at hx
              subst hx
              rw [g]; exact g2 _ _ _ (by omega) (by omega) (by omega)
        · rw [if_neg h0, List.mem_cons] at hx
          rcases hx with rfl | hx
          · rw [g]; exact g2 _ _ _ (by omega) (by omega) (by omega)
          · cases hx
  have := key ((linksP u c f w ch).getD i []) (by
    have hi' : i < (linksP u c f w ch).length := by omega
    rw [List.getD_eq_getElem?_getD, List.getElem?_eq_getElem hi']
    exact List.getElem_mem hi')
  exact this
theorem shift_nn {d : Nat → Int} (h : ∀ j, 0 ≤ d j) (j : Nat) : 0 ≤ shiftD d j := by
  cases j with
  | zero => exact Int.le_refl _
  | succ j => exact h j
theorem push_plan (u : Bool) (hp : planB c f w = true) (hc : chOK w ch) (hr : (pushP u c f w ch).2.2 < 0) :
    rg (pushP u c f w ch).1 0 = 0 ∧ (∀ j, 0 ≤ rg (pushP u c f w ch).1 j) ∧ (pushP u c f w ch).1.length = w.length + 2 ∧ solD c f w ch (fun j => rg (pushP u c f w ch).1 (j + 1)) ∧ (u = true → endsD c w ch fun j => rg (pushP u c f w ch).1 (j + 1)) := by
  have hn := net_plan u hp hc
  have h0 : rg (pushP u c f w ch).1 0 = 0 := push_zero hn hr
  have h1 : (∀ j, 0 ≤ rg (pushP u c f w ch).1 j) ∧ (pushP u c f w ch).1.length = (nP w).toNat := ⟨fun j => by have := push_le (good_all hn) (len_zeros _) j; rw [rg_zeros] at this; exact this, (sim_push (good_all hn) (len_zeros _)).l1⟩
  have hk := kept_push (good_all hn) (len_zeros _) hr
  have h2 := kept_shift h0 hk h1.1
  have h3 : (pushP u c f w ch).1.length = (nP w).toNat := h1.2
  exact ⟨h0, h1.1, by rw [h3]; unfold nP; omega, h2.1, h2.2⟩
theorem push_le_plan (u : Bool) (hp : planB c f w = true) (hc : chOK w ch) {d : Nat → Int} (hd : solD c f w ch d) (he : u = true → endsD c w ch d) :
    (pushP u c f w ch).2.2 < 0 ∧ ∀ j, rg (pushP u c f w ch).1 (j + 1) ≤ d j := by
  have h := push_least (net_plan u hp hc) ((kept_sol hd.2.1).2 ⟨hd, he⟩) (shift_nn hd.2.1)
  exact ⟨h.1, fun j => h.2 (j + 1)⟩
theorem rg_dueL (c f : Int) (w ch : List (List D)) (j : Nat) : rg (dueL c f w ch) j = rg (pushP false c f w ch).1 (j + 1) := by
  unfold dueL
  rw [rg_drop, Nat.add_comm]
theorem due_least (hp : planB c f w = true) (hc : chOK w ch) : (dueL c f w ch).length = w.length + 1 ∧ canon (dueL c f w ch) ∧ solD c f w ch (rg (dueL c f w ch)) ∧ (∀ j, rg (dueL c f w ch) j ≤ 2000000) ∧ ∀ d, solD c f w ch d → ∀ j, rg (dueL c f w ch) j ≤ d j := by
  have h1 := push_le_plan false hp hc (qD_sol hp hc) (fun h => by cases h)
  have h2 := push_plan false hp hc h1.1
  have hl : (dueL c f w ch).length = w.length + 1 := by unfold dueL; rw [List.length_drop, h2.2.2.1]; rfl
  have hle : ∀ d, solD c f w ch d → ∀ j, rg (dueL c f w ch) j ≤ d j := fun d hd j => by
    rw [rg_dueL]
    exact (push_le_plan false hp hc hd (fun h => by cases h)).2 j
  refine ⟨hl, canon_drop (canon_push _ _) 1, ?_, fun j => ?_, hle⟩
  · have h3 := h2.2.2.2.1
    have e : rg (dueL c f w ch) = fun j => rg (pushP false c f w ch).1 (j + 1) := funext fun j => rg_dueL c f w ch j
    rw [e]
    exact h3
  · by_cases hj : j < w.length + 1
    · have h4 := hle _ (qD_sol hp hc) j
      have h5 := qD_rng hp j
      have h6 := (plan_of hp).2.1
      omega
    · rw [rg_ge (by omega)]
      omega
theorem push_ends (hp : planB c f w = true) (hc : chOK w ch) : ((pushP true c f w ch).2.2 < 0 ↔ endsD c w ch (rg (dueL c f w ch))) ∧ ((pushP true c f w ch).2.2 < 0 → (pushP true c f w ch).1.drop 1 = dueL c f w ch) := by
  obtain ⟨d1, d2, d3, d4, d5⟩ := due_least (f := f) hp hc
  have key : (pushP true c f w ch).2.2 < 0 → endsD c w ch (rg (dueL c f w ch)) := fun hr => by
    obtain ⟨e1, e2, e3, e4, e5⟩ := push_plan true hp hc hr
    intro j hj h0
    have h1 := e5 rfl j hj h0
    have h2 := d5 _ e4 j
    simp only at h1 h2
    omega
  refine ⟨⟨key, fun he => (push_le_plan true hp hc d3 (fun _ => he)).1⟩, fun hr => ?_⟩
  obtain ⟨e1, e2, e3, e4, e5⟩ := push_plan true hp hc hr
  refine canon_ext (canon_drop (canon_push _ _) 1) d2 (by rw [List.length_drop, e3, d1]; rfl) fun j _ => ?_
  rw [rg_drop, Nat.add_comm]
  have h1 := (push_le_plan true hp hc d3 (fun _ => key hr)).2 j
  have h2 := d5 _ e4 j
  omega
end
end Go.Proofs.Ytipbcpobnciccaa
namespace Go.Proofs.Ytipbcpobnciccaa
open Go.Lite
set_option maxRecDepth 100000
theorem rD_def (l : List (List D)) (k : Nat) : (lx (l.getD k []) 0).getD 0 [] = rD l k := rfl
theorem all_cons {p : Nat → Bool} {k n : Nat} (h : k < n) : allFrom p k (n - k) = (p k && allFrom p (k + 1) (n - (k + 1))) := by
  rw [show n - k = (n - (k + 1)) + 1 by omega]
  rfl
theorem ok57_4 (n : Nat) : LoopSimK C (n + 2) 3 57 (loopOf C.P 57 4) (mkLK 3 l57_4 G57_4) := by
  refine loop_ofK hC (sp := sp57) (lp := lp57) (sw := sw57) ⟨ok104 n, ok107 n, ok108 n, trivial⟩ ⟨ok79 (n + 1), ok68 (n + 1), trivial⟩ 3 [] (by kernel_rfl) rfl (fun k hk => by cases hk) (by kernel_rfl) (fun ds => ((ds.getD 2 default).I - (ds.getD 3 default).I).toNat) fun ds rr h => ?_
  unfold G57_4 at h
  split at h
  · rename_i hd nn m i c f w ok z l
    obtain ⟨hp, h⟩ := need_some h
    rw [yes_iff] at hp
    obtain ⟨e0, hp, hv, hn, hm, hi, hl0⟩ := hp
    have hb := big_eq
    have hl := hv.1
    refine ⟨by rw [fuelC]; simp; omega, ?_⟩
    rw [roundTK_head (j := hd) (n := 0) e0 (by decide), show roundTK C (mkTab sp57 lp57 sw57) 57 (loopOf C.P 57 4) 3 l57_4 [.i 0, nn, m, i, c, f, w, ok, z, l] = _ from t57_4_0 nn m i c f w ok z l]
    have hx := hv.2 0 hl0
    have e1 : allFrom (rulesK c.I w.L l.L) 0 l.L.length = (ruleK c.I w.L (rD l.L 0) && allFrom (rulesK c.I w.L l.L) 1 (l.L.length - 1)) := all_cons (p := rulesK c.I w.L l.L) (k := 0) hl0
    have e2 : linksU c.I w.L l.L 0 l.L.length = ruleL c.I w.L (rD l.L 0) ++ linksU c.I w.L l.L 1 (l.L.length - 1) := by
      obtain ⟨q, hq⟩ : ∃ q, l.L.length = q + 1 := ⟨l.L.length - 1, by omega⟩
      rw [hq]
      rfl
    have w1 : IntKind.i64.wrap ((0 : Int) + 1) = 1 := by decide
    simp only [hi, hm, hn, Int.toNat_natCast, Int.toNat_zero, rD_def, ix_def, lx_def, Nat.reduceAdd, w1, e1, e2] at h hx ⊢
    generalize rD l.L 0 = x at h hx ⊢
    have hmu : (((l.L.length : Nat) : Int) - 1).toNat < (m.I - i.I).toNat := by omega
    have go : ruleK c.I w.L x = true → ∀ (y : List (List D)) (q : Int), q = y.length → ruleL c.I w.L x = y → y.length ≤ 2 → (G57_4 [.i 1, .i (l.L.length : Int), .i (l.L.length : Int), .i 1, .i c.I, .i f.I, .l w.L, .b ok.B, .i z.I, .i q, .l l.L, .l y]).run = some rr := fun hk y q hq hy hy2 => by
      subst hq
      rw [hk, Bool.true_and, hy] at h
      refine (need_yes ⟨rfl, hp, hv, rfl, rfl, by simp only [I_i]; omega, by simp only [I_i, L_l]; omega, rfl, by simp only [I_i, L_l]; omega⟩).trans ?_
      exact h
    refine rd_pos (by omega) (rd_dec (by omega) (rd_dec (by omega) ?_))
    rcases hx with hx | ⟨hx, h1, h2⟩ | ⟨hx, h1, h2⟩
    · refine rd_pos hx (rd_need rfl (rd_false rfl (rd_need rfl (rd_again (go ?_ _ _ ?_ ?_ ?_) hmu))))
      · unfold ruleK
        exact decide_eq_true (fun hh => by omega)
      · rfl
      · unfold ruleL lk3
        rw [if_pos hx]
      · simp
    · have hx' : ¬ ix x 0 = ((0 : Nat) : Int) := by omega
      refine rd_neg hx' (rd_pos hx (rd_yes ⟨hp, h1, h2⟩ (rd_need rfl (rd_false rfl (rd_need rfl (rd_again (go ?_ _ _ ?_ ?_ ?_) hmu))))))
      · unfold ruleK
        exact decide_eq_true (fun hh => by omega)
      · rfl
      · unfold ruleL
        rw [if_neg (by omega), if_pos hx]
        rfl
      · simp
    · have hx0 : ¬ ix x 0 = ((0 : Nat) : Int) := by omega
      have hx1 : ¬ ix x 0 = ((1 : Nat) : Int) := by omega
      refine rd_neg hx0 (rd_neg hx1 (rd_dec hx (rd_yes ⟨hp, h1.1, h1.2, h2⟩ ?_)))
      have hr : ruleL c.I w.L x = closO c.I w.L (ix x 1).toNat (lx x 2) := by unfold ruleL; rw [if_neg (by omega), if_neg (by omega)]
      have e3 : (((ix x 1).toNat : Nat) : Int) = ix x 1 := by omega
      refine rd_ite (fun hem => ?_) fun hem => ?_
      · refine rd_need rfl (rd_false rfl (rd_need rfl (rd_again (go ?_ _ _ ?_ ?_ ?_) hmu)))
        · unfold ruleK
          exact decide_eq_true (fun _ hh => by rw [hem] at hh; cases hh)
        · rfl
        · rw [hr]
          unfold closO
          rw [if_pos hem, e3]
          rfl
        · simp
      · refine rd_if (fun hgt => rd_out ?_) fun hle => rd_need rfl (rd_false rfl (rd_need rfl (rd_again (go ?_ _ _ ?_ ?_ ?_) hmu)))
        · have hk : ruleK c.I w.L x = false := by
            unfold ruleK
            exact decide_eq_false (fun hh => by have := hh hx hem; omega)
          rw [hk, Bool.false_and] at h
          exact h
        · unfold ruleK
          exact decide_eq_true (fun _ _ => by omega)
        · rfl
        · rw [hr]
          unfold closO
          rw [if_neg (by rw [hem]; exact Bool.false_ne_true), e3]
          rfl
        · simp
  · rename_i hd nn m i c f w ok z ll l k
    obtain ⟨hp, h⟩ := need_some h
    rw [yes_iff] at hp
    obtain ⟨e0, hp, hv, hn, hm, hi0, hi1, hll, hkl⟩ := hp
    have hb := big_eq
    have hl := hv.1
    refine ⟨by rw [fuelC]; simp; omega, ?_⟩
    rw [roundTK_head (j := hd) (n := 1) e0 (by decide), show roundTK C (mkTab sp57 lp57 sw57) 57 (loopOf C.P 57 4) 3 l57_4 [.i 1, nn, m, i, c, f, w, ok, z, ll, l, k] = _ from t57_4_1 nn m i c f w ok z ll l k]
    obtain ⟨j, hj⟩ : ∃ j : Nat, i.I = j := ⟨i.I.toNat, by omega⟩
    have t1 : ∀ y : List D, List.take 1 [y] = [y] := fun _ => rfl
    have t2 : ∀ y z : List D, List.take 2 [y, z] = [y, z] := fun _ _ => rfl
    have t3 : ∀ q : Nat, List.take 2 (afterL c.I w.L q) = afterL c.I w.L q := fun _ => rfl
    have t4 : List.take k.L.length k.L = k.L := List.take_length
    simp only [hj, hm, hn, hll, Int.toNat_natCast, rD_def, ix_def, lx_def, Nat.reduceAdd, t4, bytes58] at h hi0 hi1 hkl ⊢
    refine rd_if (fun hlt => ?_) fun hge => rd_out ?_
    · have hjl : j < l.L.length := by omega
      have hx := hv.2 j hjl
      rw [wrap_succ (by omega)]
      have e2 : linksU c.I w.L l.L j (l.L.length - j) = ruleL c.I w.L (rD l.L j) ++ linksU c.I w.L l.L (j + 1) (l.L.length - (j + 1)) := by
        rw [show l.L.length - j = (l.L.length - (j + 1)) + 1 by omega]
        rfl
      rw [all_cons hjl, e2, show rulesK c.I w.L l.L j = ruleK c.I w.L (rD l.L j) from rfl] at h
      generalize rD l.L j = x at h hx ⊢
      have hmu : (((l.L.length : Nat) : Int) - ((j + 1 : Nat) : Int)).toNat < (m.I - i.I).toNat := by omega
      have go : ruleK c.I w.L x = true → ∀ (y : List (List D)) (q : Int), q = ((k.L.length + y.length : Nat) : Int) → ruleL c.I w.L x = y → y.length ≤ 2 → (G57_4 [.i 1, .i (l.L.length : Int), .i (l.L.length : Int), .i ((j + 1 : Nat) : Int), .i c.I, .i f.I, .l w.L, .b ok.B, .i z.I, .i q, .l l.L, .l (k.L ++ y)]).run = some rr := fun hk y q hq hy hy2 => by
        subst hq
        rw [hk, Bool.true_and, hy, ← List.append_assoc] at h
        refine (need_yes ⟨rfl, hp, hv, rfl, rfl, by simp only [I_i]; omega, by simp only [I_i, L_l]; omega, by simp only [I_i, L_l, List.length_append], by simp only [I_i, L_l, List.length_append]; omega⟩).trans ?_
        simp only [I_i, L_l, Int.toNat_natCast]
        exact h
      refine rd_dec (by omega) (rd_dec (by omega) ?_)
      rcases hx with hx | ⟨hx, h1, h2⟩ | ⟨hx, h1, h2⟩
      · refine rd_pos hx (rd_need rfl (rd_false rfl (rd_dec (by omega) (rd_again (go ?_ _ _ ?_ ?_ ?_) hmu))))
        · unfold ruleK
          exact decide_eq_true (fun hh => by omega)
        · rfl
        · unfold ruleL
          rw [if_pos hx]
          rfl
        · simp
      · have hx' : ¬ ix x 0 = ((0 : Nat) : Int) := by omega
        refine rd_neg hx' (rd_pos hx (rd_yes ⟨hp, h1, h2⟩ (rd_need rfl (rd_false rfl (rd_dec (by omega) (rd_again (go ?_ _ _ ?_ ?_ ?_) hmu))))))
        · unfold ruleK
          exact decide_eq_true (fun hh => by omega)
        · rfl
        · unfold ruleL
          rw [if_neg (by omega), if_pos hx]
          rfl
        · simp [afterL]
      · have hx0 : ¬ ix x 0 = ((0 : Nat) : Int) := by omega
        have hx1 : ¬ ix x 0 = ((1 : Nat) : Int) := by omega
        refine rd_neg hx0 (rd_neg hx1 (rd_dec hx (rd_yes ⟨hp, h1.1, h1.2, h2⟩ ?_)))
        have hr : ruleL c.I w.L x = closO c.I w.L (ix x 1).toNat (lx x 2) := by unfold ruleL; rw [if_neg (by omega), if_neg (by omega)]
        have e3 : (((ix x 1).toNat : Nat) : Int) = ix x 1 := by omega
        refine rd_ite (fun hem => ?_) fun hem => ?_
        · refine rd_need rfl (rd_false rfl (rd_dec (by omega) (rd_again (go ?_ _ _ ?_ ?_ ?_) hmu)))
          · unfold ruleK
            exact decide_eq_true (fun _ hh => by rw [hem] at hh; cases hh)
          · rfl
          · rw [hr]
            unfold closO
            rw [if_pos hem, e3]
            rfl
          · simp
        · refine rd_if (fun hgt => rd_out ?_) fun hle => rd_need rfl (rd_false rfl (rd_dec (by omega) (rd_again (go ?_ _ _ ?_ ?_ ?_) hmu)))
          · have hk : ruleK c.I w.L x = false := by
              unfold ruleK
              exact decide_eq_false (fun hh => by have := hh hx hem; omega)
            rw [hk, Bool.false_and] at h
            exact h
          · unfold ruleK
            exact decide_eq_true (fun _ _ => by omega)
          · rfl
          · rw [hr]
            unfold closO
            rw [if_neg (by rw [hem]; exact Bool.false_ne_true), e3]
            rfl
          · simp
    · rw [show l.L.length - j = 0 by omega] at h
      simp only [allFrom, linksU, List.append_nil] at h
      exact h
  · cases h
theorem ok57_9 (n : Nat) : LoopSimK C (n + 2) 3 57 (loopOf C.P 57 9) (mkLK 3 l57_9 G57_9) := by
  refine loop_ofK hC (sp := sp57) (lp := lp57) (sw := sw57) ⟨ok104 n, ok107 n, ok108 n, trivial⟩ ⟨ok79 (n + 1), ok68 (n + 1), trivial⟩ 3 [] (by kernel_rfl) rfl (fun k hk => by cases hk) (by kernel_rfl) (fun ds => ((ds.getD 1 default).I - (ds.getD 2 default).I).toNat) fun ds rr h => ?_
  unfold G57_9 at h
  split at h
  · rename_i hd m i c f w ok z ll r
    obtain ⟨hp, h⟩ := need_some h
    rw [yes_iff] at hp
    obtain ⟨e0, h1, h2, h3, h4, h5⟩ := hp
    have hb := big_eq
    refine ⟨by rw [fuelC]; simp; omega, ?_⟩
    rw [roundTK_head (j := hd) (n := 1) e0 (by decide), show roundTK C (mkTab sp57 lp57 sw57) 57 (loopOf C.P 57 9) 3 l57_9 [.i 1, m, i, c, f, w, ok, z, ll, r] = _ from t57_9_1 m i c f w ok z ll r]
    obtain ⟨q, hq⟩ : ∃ q : Nat, i.I = q := ⟨i.I.toNat, by omega⟩
    have e1 : [[D.i 0, D.i (q : Int), D.i 0]].take 1 = [[D.i 0, D.i (q : Int), D.i 0]] := rfl
    simp only [hq, h4, Int.toNat_natCast, e1, List.length_cons, List.length_nil, Nat.zero_add, List.take_length, bytes58] at h h2 h5 ⊢
    refine rd_if (fun hlt => ?_) fun hge => rd_out ?_
    · refine rd_need rfl (rd_false rfl (rd_dec (by omega) ?_))
      rw [wrap_succ (by omega)]
      have e2 : (m.I - (q : Int)).toNat = (m.I - ((q + 1 : Nat) : Int)).toNat + 1 := by omega
      refine rd_again ((need_yes ⟨rfl, by simp only [I_i]; omega, by simp only [I_i]; omega, h3, by simp only [I_i, L_l, List.length_append, List.length_cons, List.length_nil], by simp only [I_i, L_l, List.length_append, List.length_cons, List.length_nil]; omega⟩).trans ?_) (show (m.I - ((q + 1 : Nat) : Int)).toNat < (m.I - i.I).toNat by omega)
      rw [← h]
      simp only [L_l, I_i, Int.toNat_natCast, e2, extraF_snoc]
      rfl
    · rw [← h]
      have e3 : (m.I - (q : Int)).toNat = 0 := by omega
      simp only [e3, extraF, List.append_nil, run_leaf]
  · cases h
end Go.Proofs.Ytipbcpobnciccaa
namespace Go.Proofs.Ytipbcpobnciccaa
open Go.Lite
def s56 : SigW := ⟨[.agg [.k (.int .i64), .k (.int .i64), .k (.ro [.int .i64, .int .i64, .int .i64, .int .i64, .bool, .int .i64, .int .i64, .ro [.int .i64, .int .i64, .int .i64]])]], [], [(.fn 77 [] [.ptr 0 3 0 0], [.box [.k (.int .i64), .k (.int .i64), .k (.ro [.int .i64, .int .i64, .int .i64, .int .i64, .bool, .int .i64, .int .i64, .ro [.int .i64, .int .i64, .int .i64]])]])]⟩
def s77 : SigI := ⟨[.yl, .ptr 0 3 0 0], [.box [.k (.int .i64), .k (.int .i64), .k (.ro [.int .i64, .int .i64, .int .i64, .int .i64, .bool, .int .i64, .int .i64, .ro [.int .i64, .int .i64, .int .i64]])]]⟩
def y77 : YS := mkY [.sl 0 1] [.row [.int .i64]] true
def l77_2 : LSig := mkLS [0, 1, 3, 12, 13, 14] [(69, [(0, .yl), (1, .ptr 0 3 0 0), (3, .sl 1 1), (12, .k (.ro [.int .i64, .int .i64, .int .i64, .int .i64, .bool, .int .i64, .int .i64, .ro [.int .i64, .int .i64, .int .i64]])), (13, .k (.int .i64)), (14, .k (.int .i64))], [.box [.k (.int .i64), .k (.int .i64), .k (.ro [.int .i64, .int .i64, .int .i64, .int .i64, .bool, .int .i64, .int .i64, .ro [.int .i64, .int .i64, .int .i64]])], .row [.int .i64]])] [(.exit 0, [0, 1, 3], [(69, [(0, .yl), (1, .ptr 0 3 0 0), (3, .sl 1 1)], [.box [.k (.int .i64), .k (.int .i64), .k (.ro [.int .i64, .int .i64, .int .i64, .int .i64, .bool, .int .i64, .int .i64, .ro [.int .i64, .int .i64, .int .i64]])], .row [.int .i64]])])]
def l77_7 : LSig := mkLS [0, 1, 3] [(69, [(0, .yl), (1, .ptr 0 3 0 0), (3, .sl 1 1)], [.box [.k (.int .i64), .k (.int .i64), .k (.ro [.int .i64, .int .i64, .int .i64, .int .i64, .bool, .int .i64, .int .i64, .ro [.int .i64, .int .i64, .int .i64]])], .row [.int .i64]])] [(.ret, [], [(69, [], [.box [.k (.int .i64), .k (.int .i64), .k (.ro [.int .i64, .int .i64, .int .i64, .int .i64, .bool, .int .i64, .int .i64, .ro [.int .i64, .int .i64, .int .i64]])]])])]
def l77_9 : LSig := mkLS [0, 1, 3, 6] [(69, [(0, .yl), (1, .ptr 0 3 0 0), (3, .sl 1 1), (6, .k (.int .i64))], [.box [.k (.int .i64), .k (.int .i64), .k (.ro [.int .i64, .int .i64, .int .i64, .int .i64, .bool, .int .i64, .int .i64, .ro [.int .i64, .int .i64, .int .i64]])], .row [.int .i64]])] [(.exit 4, [0, 1, 3, 6], [(69, [(0, .yl), (1, .ptr 0 3 0 0), (3, .sl 1 1), (6, .k (.int .i64))], [.box [.k (.int .i64), .k (.int .i64), .k (.ro [.int .i64, .int .i64, .int .i64, .int .i64, .bool, .int .i64, .int .i64, .ro [.int .i64, .int .i64, .int .i64]])], .row [.int .i64]])])]
end Go.Proofs.Ytipbcpobnciccaa
namespace Go.Proofs.Ytipbcpobnciccaa
open Go.Lite
noncomputable section
def lenN (x : D) : D := .i (x.I.toNat : Nat)
def zerR (n : Nat) : List (List D) := List.replicate n [.i 0]
def clR (c f : Int) (w ch : List (List D)) : List (List D) := rowF (clG w (rg (dueL c f w ch))) 0 w.length
def opR (c f : Int) (w ch : List (List D)) : List (List D) := rowF (opG c w (rg (dueL c f w ch))) 0 w.length
def hoursN (w : List (List D)) (j : Nat) : Int := (lx (w.getD j []) 7).length
def zeroC (w : List (List D)) (j : Nat) : Int := if hoursN w j = 0 then -1 else 0
def firstC (w : List (List D)) : List (List D) := rowF (zeroC w) 0 w.length
def carryF (w : List (List D)) : Nat → List (List D) → List (List D) × Int
  | 0, ch => (ch, -1)
  | k + 1, ch => if rg ch k + 1 ≥ hoursN w k then carryF w k (rs ch k (zeroC w k)) else (ch, k)
def stepC (x : List (List D) × Int) : List (List D) := rs x.1 x.2.toNat (rg x.1 x.2.toNat + 1)
def allC (w : List (List D)) : Nat → List (List D) → List (List D)
  | 0, _ => []
  | n + 1, ch => [.i ch.length, .l ch] :: (if (carryF w w.length ch).2 < 0 then [] else allC w n (stepC (carryF w w.length ch)))
def makeF (c f : Int) (w : List (List D)) : Nat → List (List D) → Int × List (List D)
  | 0, ch => (9, ch)
  | n + 1, ch => if duesOk c f w ch then (0, ch) else if (carryF w w.length ch).2 < 0 then (5, ch) else makeF c f w n (stepC (carryF w w.length ch))
def triesN : Nat := 20000
def foundC (c f : Int) (w : List (List D)) : Int × List (List D) := makeF c f w triesN (firstC w)
def prodF (w : List (List D)) : Nat → Nat
  | 0 => 1
  | k + 1 => prodF w k * (max 1 (hoursN w k)).toNat
def fewC (w : List (List D)) : Prop := prodF w w.length ≤ 1000000000000
def carOK (w ch : List (List D)) : Prop := chOK w ch ∧ canon ch
def G56 (ds : List D) : T (List D) := match ds with
  | [c, f, w] => .leaf [.i c.I, .i f.I, .l w.L]
  | _ => .fail
def G77 (ds : List D) : T (List (List D)) := match ds with
  | [c, f, w] => .need (yes (planB c.I f.I w.L = true ∧ fewC w.L)) (.leaf (allC w.L (prodF w.L w.L.length) (firstC w.L)))
  | _ => .fail
def G77_2 (_ : Nat) (ds : List D) : T (Ex × List D) := match ds with
  | [g, n, w', m, i, c, f, w, ch] => .need (yes (planB c.I f.I w.L = true ∧ w'.L = w.L ∧ m.I = w.L.length ∧ n.I = w.L.length ∧ (0 ≤ i.I ∧ i.I ≤ m.I) ∧ ch.L = rowF (zeroC w.L) 0 i.I.toNat ++ zerR (w.L.length - i.I.toNat)))
      (.leaf (.exit 0, [.l g.L, lenN n, .i c.I, .i f.I, .l w.L, .l (firstC w.L)]))
  | _ => .fail
def valC (w ch : List (List D)) : Nat → Nat
  | 0 => 0
  | k + 1 => valC w ch k * (max 1 (hoursN w k)).toNat + (max 0 (rg ch k)).toNat
def restC (w ch : List (List D)) : Nat := prodF w w.length - valC w ch w.length
def G77_7 (q : Nat) (ds : List D) : T (Ex × List D) := match ds with
  | [g, n, c, f, w, ch] => .need (yes (planB c.I f.I w.L = true ∧ fewC w.L ∧ n.I = w.L.length ∧ carOK w.L ch.L ∧ g.L.length ≤ q))
      (.leaf (.ret, [.l (g.L ++ (allC w.L (restC w.L ch.L) ch.L).take (q + 1 - g.L.length)), .i c.I, .i f.I, .l w.L]))
  | _ => .fail
def G77_9 (_ : Nat) (ds : List D) : T (Ex × List D) := match ds with
  | [g, n, j, c, f, w, ch] => .need (yes (planB c.I f.I w.L = true ∧ n.I = w.L.length ∧ carOK w.L ch.L ∧ -1 ≤ j.I ∧ j.I < w.L.length))
      (.leaf (.exit 4, [.l g.L, lenN n, .i (carryF w.L (j.I + 1).toNat ch.L).2, .i c.I, .i f.I, .l w.L, .l (carryF w.L (j.I + 1).toNat ch.L).1]))
  | _ => .fail
end
end Go.Proofs.Ytipbcpobnciccaa
namespace Go.Proofs.Ytipbcpobnciccaa
open Go.Lite
set_option maxRecDepth 100000
theorem cpy_nil {α : Type} (l : List α) (i n : Nat) : cpy l [] i n = l := rfl
theorem rulesF_get {w ch : List (List D)} : ∀ (k i q : Nat), q < k → rD (rulesF w ch i k) (2 * q) = [.i 1, .i (((i + q : Nat) : Int) + 1)] ∧ rD (rulesF w ch i k) (2 * q + 1) = [.i 2, .i ((i + q : Nat) : Int), .l (optF w ch (i + q))]
  | k + 1, i, 0, _ => ⟨rfl, rfl⟩
  | k + 1, i, q + 1, h => by
    have := rulesF_get (w := w) (ch := ch) k (i + 1) q (by omega)
    rw [show i + 1 + q = i + (q + 1) by omega] at this
    exact this
section
variable {c f : Int} {w ch : List (List D)}
theorem rule_0 : rD (rulesP f w ch) 0 = [.i 0, .i f] := rfl
theorem rule_aft {q : Nat} (h : q < w.length) : rD (rulesP f w ch) (2 * q + 1) = [.i 1, .i ((q : Int) + 1)] := by
  have := (rulesF_get (w := w) (ch := ch) w.length 0 q h).1
  rw [Nat.zero_add] at this
  exact this
theorem rule_clo {q : Nat} (h : q < w.length) : rD (rulesP f w ch) (2 * q + 2) = [.i 2, .i (q : Int), .l (optF w ch q)] := by
  have := (rulesF_get (w := w) (ch := ch) w.length 0 q h).2
  rw [Nat.zero_add] at this
  exact this
theorem opt_empty (q : Nat) : (optF w ch q).isEmpty = !decide (0 ≤ rg ch q) := by
  unfold optF
  split
  · rename_i h; rw [decide_eq_true h]; rfl
  · rename_i h; rw [decide_eq_false h]; rfl
theorem ruleL_clo (q : Nat) : ruleL c w [.i 2, .i (q : Int), .l (optF w ch q)] = closL true c w ch q := by
  have e : ruleL c w [.i 2, .i (q : Int), .l (optF w ch q)] = closO c w q (optF w ch q) := rfl
  rw [e]
  unfold closO closL
  rw [opt_empty]
  by_cases h : 0 ≤ rg ch q
  · rw [if_neg (by rw [decide_eq_true h]; exact Bool.false_ne_true), if_pos h, if_pos rfl]
    unfold optF
    rw [if_pos h]
    rfl
  · rw [if_pos (by rw [decide_eq_false h]; rfl), if_neg h]
theorem ruleK_clo (q : Nat) : ruleK c w [.i 2, .i (q : Int), .l (optF w ch q)] = limJ c w ch q := by
  have e : ruleK c w [.i 2, .i (q : Int), .l (optF w ch q)] = decide ((2 : Int) = 2 → (optF w ch q).isEmpty = false → ix (w.getD q []) 1 + busyF c (w.getD q []) ≤ ix ((optF w ch q).getD 0 []) 2) := rfl
  rw [e, opt_empty]
  unfold limJ
  by_cases h : 0 ≤ rg ch q
  · have e2 : ix ((optF w ch q).getD 0 []) 2 = ix (winF w ch q) 2 := by unfold optF; rw [if_pos h]; rfl
    rw [e2]
    simp [h]
  · simp [h]
theorem links_rules : ∀ (k i : Nat), i + k ≤ w.length → linksU c w (rulesP f w ch) (2 * i + 1) (2 * k) = linksF true c w ch i k
  | 0, _, _ => rfl
  | k + 1, i, h => by
    have ih := links_rules (k := k) (i := i + 1) (by omega)
    rw [show 2 * (k + 1) = 2 * k + 1 + 1 by omega]
    simp only [linksU]
    rw [show 2 * i + 1 + 1 = 2 * i + 2 by omega, rule_aft (show i < w.length by omega), rule_clo (show i < w.length by omega), ruleL_clo, show 2 * i + 2 + 1 = 2 * (i + 1) + 1 by omega, ih]
    have e : ruleL c w [.i 1, .i ((i : Int) + 1)] = afterL c w i := by
      have : ruleL c w [.i 1, .i ((i : Int) + 1)] = afterL c w ((i : Int) + 1 - 1).toNat := rfl
      rw [this, show ((i : Int) + 1 - 1).toNat = i by omega]
    rw [e]
    simp only [linksF, linkJ, List.append_assoc]
theorem links_plan : linksU c w (rulesP f w ch) 0 (rulesP f w ch).length = linksP true c f w ch := by
  rw [len_rulesP]
  simp only [linksU]
  rw [show 0 + 1 = 2 * 0 + 1 by rfl, links_rules w.length 0 (by omega)]
  rfl
theorem lim_rules : ∀ (k i : Nat), i + k ≤ w.length → allFrom (rulesK c w (rulesP f w ch)) (2 * i + 1) (2 * k) = allFrom (limJ c w ch) i k
  | 0, _, _ => rfl
  | k + 1, i, h => by
    have ih := lim_rules (k := k) (i := i + 1) (by omega)
    rw [show 2 * (k + 1) = 2 * k + 1 + 1 by omega]
    simp only [allFrom, rulesK]
    rw [show 2 * i + 1 + 1 = 2 * i + 2 by omega, rule_aft (show i < w.length by omega), rule_clo (show i < w.length by omega), ruleK_clo, show 2 * i + 2 + 1 = 2 * (i + 1) + 1 by omega]
    have e : ruleK c w [.i 1, .i ((i : Int) + 1)] = true := by
      have : ruleK c w [.i 1, .i ((i : Int) + 1)] = decide ((1 : Int) = 2 → (D.i 1).L.isEmpty = false → _) := rfl
      rw [this]
      exact decide_eq_true (fun h => by omega)
    rw [e, Bool.true_and]
    rw [← ih]
theorem lim_plan : allFrom (rulesK c w (rulesP f w ch)) 0 (rulesP f w ch).length = limB c w ch := by
  rw [len_rulesP]
  simp only [allFrom]
  rw [show 0 + 1 = 2 * 0 + 1 by rfl, lim_rules w.length 0 (by omega)]
  have e : rulesK c w (rulesP f w ch) 0 = true := by
    unfold rulesK
    rw [rule_0]
    unfold ruleK
    exact decide_eq_true (fun h => by
      have h : (0 : Int) = 2 := h
      omega)
  rw [e, Bool.true_and]
  rfl
theorem rules_valid (hp : planB c f w = true) (hc : chOK w ch) : rulesV w (rulesP f w ch) := by
  have h1 := (plan_of hp).2.1
  refine ⟨by rw [len_rulesP]; omega, fun j hj => ?_⟩
  rw [len_rulesP] at hj
  cases j with
  | zero => exact .inl rfl
  | succ j =>
    obtain ⟨q, hq⟩ : ∃ q, j = 2 * q ∨ j = 2 * q + 1 := ⟨j / 2, by omega⟩
    rcases hq with rfl | rfl
    · rw [rule_aft (by omega)]
      refine .inr (.inl ⟨rfl, ?_, ?_⟩)
      · show (1 : Int) ≤ (q : Int) + 1
        omega
      · show (q : Int) + 1 ≤ w.length
        omega
    · rw [show 2 * q + 1 + 1 = 2 * q + 2 by rfl, rule_clo (by omega)]
      refine .inr (.inr ⟨rfl, ⟨?_, ?_⟩, fun he => ?_⟩)
      · show (0 : Int) ≤ (q : Int)
        omega
      · show (q : Int) < w.length
        omega
      · have he : (optF w ch q).isEmpty = false := he
        rw [opt_empty] at he
        have h0 : 0 ≤ rg ch q := by
          have : decide (0 ≤ rg ch q) = true := by simpa using he
          exact of_decide_eq_true this
        have hw := win_of hp hc (j := q) (by omega) h0
        show hourB (optF w ch q) 0 = true
        unfold optF
        rw [if_pos h0]
        exact decide_eq_true hw
end
theorem ok57 (n : Nat) : FnOK C (n + 3) 57 (mkF s57 G57) := by
  refine fn_ofD hC (sp := sp57) (lp := lp57) (sw := sw57) ⟨ok104 n, ok107 n, ok108 n, trivial⟩ ⟨ok79 (n + 1), ok68 (n + 1), trivial⟩ (by kernel_rfl) 3 [4, 9] (by kernel_rfl) (by kernel_rfl) (fun k hk L hL => by
      simp at hk
      rcases hk with rfl | rfl <;> cases hL
      · exact ok57_4 n
      · exact ok57_9 n) fun ds rr h => ?_
  unfold G57 at h
  split at h
  · rename_i c f w ch
    obtain ⟨hp, h⟩ := need_some h
    rw [yes_iff] at hp
    obtain ⟨hp, hc⟩ := hp
    refine (congrArg T.run (t57 c f w ch)).trans ?_
    obtain ⟨p0, p1, p2, p3⟩ := plan_of hp
    have hnet := net_plan (f := f.I) true hp hc
    have hgood := good_all hnet
    have w2 : IntKind.i64.wrap ((w.L.length : Int) + 2) = nP w.L := wrap_id (by omega) (by omega)
    have hn : nP w.L = (w.L.length : Int) + 2 := rfl
    have hnn : (nP w.L).toNat = w.L.length + 2 := by omega
    have hll := len_linksF (c := c.I) (w := w.L) (ch := ch.L) true w.L.length 0
    have hpl : (linksP true c.I f.I w.L ch.L).length ≤ 4 * w.L.length + 1 := by unfold linksP; simp only [List.length_cons]; omega
    have e1 : linksP true c.I f.I w.L ch.L ++ extraF 0 (nP w.L).toNat = allL (nP w.L) (linksP true c.I f.I w.L ch.L) := rfl
    have e2 : List.replicate (nP w.L).toNat [D.i 0] = zeros (nP w.L) := rfl
    have e3 : pushR (nP w.L) (allL (nP w.L) (linksP true c.I f.I w.L ch.L)) (zeros (nP w.L)) = pushP true c.I f.I w.L ch.L := rfl
    have lz := len_zeros (nP w.L)
    rw [hnn] at lz
    have t1 : Int.toNat 1 = 1 := rfl
    simp only [lim_plan, links_plan, w2, Int.toNat_natCast, Int.toNat_zero, Int.sub_zero, List.take_length, e1, e2, e3, bytes3, rg_def, t1, lz, cpy_nil]
    refine go_yes ⟨hp, hc⟩ (go_yes ⟨by trivial, hp, rules_valid hp hc, by trivial, by trivial, by trivial, by rw [len_rulesP]; omega⟩ ?_)
    unfold duesOk at h
    refine go_ite (fun hl => ?_) fun hl => ?_
    · rw [hl, Bool.true_and] at h
      have h1 : (0 : Int) ≤ 1 ∧ (1 : Int) ≤ ((w.L.length + 2 : Nat) : Int) := by omega
      refine go_yes ⟨by trivial, by omega, by omega, by omega, by trivial, by omega⟩ (go_dec ⟨by omega, by trivial, by omega, by omega⟩ (go_dec h1 (go_dec (by omega) (go_dec (by omega) (go_yes ⟨hgood, by trivial, by omega, bnd_zeros _ (by omega)⟩ (go_if (fun hge => ?_) fun hlt => ?_))))))
      · rw [← h, decide_eq_false (by omega)]
        rfl
      · have hneg : (pushP true c.I f.I w.L ch.L).2.2 < 0 := by omega
        obtain ⟨q1, q2, q3, -⟩ := push_plan true hp hc hneg
        rw [decide_eq_true hneg] at h
        refine go_dec (by omega) (go_dec (by omega) (go_false ?_ (go_dec h1 ?_)))
        · rw [q1]
          rfl
        · rw [← h, run_ite, if_pos rfl, show w.L.length + 2 - 1 = w.L.length + 1 by omega]
    · rw [hl, Bool.false_and] at h
      rw [← h]
      rfl
  · cases h
theorem ok67 (n : Nat) : FnOK C (n + 1) 67 (mkF s67 Gcl1) := by
  refine fn_ofS hC (sp := sp67) (lp := lp67) (sw := sw67) trivial trivial (by kernel_rfl) [] (by kernel_rfl) rfl (fun k hk => by cases hk) fun ds rr h => ?_
  unfold Gcl1 at h
  split at h
  · rename_i l
    obtain ⟨hp, h⟩ := need_some h
    rw [yes_iff] at hp
    obtain ⟨h1, h2⟩ := hp
    refine (congrArg T.run (t67 l)).trans ?_
    have hne : l.L.isEmpty = false := by cases hl : l.L with
      | nil => exact absurd hl h1
      | cons c cs => rfl
    have b3 : Try.prog.types[3].bytes = 8 := by kernel_rfl
    rw [b3]
    refine go_need (by rw [hne]; rfl) (go_false hne (go_dec (by omega) h))
  · cases h
theorem len_rowF (g : Nat → Int) : ∀ (k i : Nat), (rowF g i k).length = k
  | 0, _ => rfl
  | k + 1, i => by simp only [rowF, List.length_cons, len_rowF g k (i + 1)]
theorem rowF_snoc (g : Nat → Int) : ∀ (k i : Nat), rowF g i k ++ [[.i (g (i + k))]] = rowF g i (k + 1)
  | 0, _ => rfl
  | k + 1, i => by
    have := rowF_snoc g k (i + 1)
    rw [show i + 1 + k = i + (k + 1) by omega] at this
    simp only [rowF, List.cons_append] at this ⊢
    rw [this]
theorem rowF_get (g : Nat → Int) : ∀ (k i j : Nat), j < k → (rowF g i k).getD j [] = [.i (g (i + j))]
  | k + 1, i, 0, _ => rfl
  | k + 1, i, j + 1, h => by
    have := rowF_get g k (i + 1) j (by omega)
    rw [show i + 1 + j = i + (j + 1) by omega] at this
    exact this
theorem rg_rowF {g : Nat → Int} {k i j : Nat} (h : j < k) : rg (rowF g i k) j = g (i + j) := by
  unfold rg
  rw [rowF_get g k i j h]
  rfl
theorem canon_rowF (g : Nat → Int) (k i : Nat) : canon (rowF g i k) := by
  intro j hj
  rw [len_rowF] at hj
  rw [rowF_get g k i j hj, rg_rowF hj]
theorem rowF_ext {g g' : Nat → Int} : ∀ (k i : Nat), (∀ j, i ≤ j → j < i + k → g j = g' j) → rowF g i k = rowF g' i k
  | 0, _, _ => rfl
  | k + 1, i, h => by
    simp only [rowF]
    rw [h i (Nat.le_refl _) (by omega), rowF_ext k (i + 1) (fun j h1 h2 => h j (by omega) (by omega))]
theorem rep_cons (n : Nat) : zerR (n + 1) = [.i 0] :: zerR n := rfl
theorem rowF_rep (g : Nat → Int) (i k : Nat) (v : Int) (hv : v = g i) : rs (rowF g 0 i ++ zerR (k + 1)) i v = rowF g 0 (i + 1) ++ zerR k := by
  unfold rs
  rw [List.set_append_right _ _ (by rw [len_rowF]; exact Nat.le_refl _), len_rowF, Nat.sub_self, rep_cons, List.set_cons_zero, hv]
  have := rowF_snoc g i 0
  rw [Nat.zero_add] at this
  rw [← this, List.append_assoc]
  rfl
end Go.Proofs.Ytipbcpobnciccaa
namespace Go.Proofs.Ytipbcpobnciccaa
open Go.Lite
set_option maxRecDepth 100000
theorem rs_same {t : List (List D)} (h : canon t) (j : Nat) : rs t j (rg t j) = t := by
  by_cases hj : j < t.length
  · refine canon_ext (canon_rs h _ _) h (len_rs _ _ _) fun i hi => ?_
    rw [rg_rs hj]
    split
    · rename_i e; rw [e]
    · rfl
  · unfold rs
    exact List.set_eq_of_length_le (by omega)
section
variable {w : List (List D)}
theorem zero_eq (w : List (List D)) (j : Nat) : zeroC w j = min 0 (hoursN w j - 1) := by
  unfold zeroC hoursN
  by_cases h : ((lx (w.getD j []) 7).length : Int) = 0
  · rw [if_pos h, h]; rfl
  · rw [if_neg h]
    omega
theorem digit_of {ch : List (List D)} (hc : chOK w ch) {j : Nat} (hj : j < w.length) : (hoursN w j = 0 ∧ rg ch j = -1) ∨ (0 ≤ rg ch j ∧ rg ch j < hoursN w j) := by
  have := hc.2 j hj
  unfold hoursN
  split at this
  · rename_i h; exact .inl ⟨by omega, this⟩
  · exact .inr this
theorem digit_ok {ch : List (List D)} (hl : ch.length = w.length) (h : ∀ j, j < w.length → (hoursN w j = 0 ∧ rg ch j = -1) ∨ (0 ≤ rg ch j ∧ rg ch j < hoursN w j)) : chOK w ch := by
  refine ⟨hl, fun j hj => ?_⟩
  have := h j hj
  unfold hoursN at this
  split
  · rename_i e
    rcases this with h | h
    · exact h.2
    · omega
  · rcases this with h | h
    · omega
    · exact h
theorem zero_digit (j : Nat) : (hoursN w j = 0 ∧ zeroC w j = -1) ∨ (0 ≤ zeroC w j ∧ zeroC w j < hoursN w j) := by
  unfold zeroC
  by_cases h : hoursN w j = 0
  · rw [if_pos h]; exact .inl ⟨h, rfl⟩
  · rw [if_neg h]
    have : 0 ≤ hoursN w j := by unfold hoursN; omega
    exact .inr ⟨Int.le_refl _, by omega⟩
theorem first_ok : carOK w (firstC w) := by
  refine ⟨digit_ok (len_rowF _ _ _) fun j hj => ?_, canon_rowF _ _ _⟩
  unfold firstC
  rw [rg_rowF hj, Nat.zero_add]
  exact zero_digit j
theorem set_ok {ch : List (List D)} (h : carOK w ch) {k : Nat} (hk : k < w.length) {v : Int} (hv : (hoursN w k = 0 ∧ v = -1) ∨ (0 ≤ v ∧ v < hoursN w k)) : carOK w (rs ch k v) := by
  refine ⟨digit_ok (by rw [len_rs]; exact h.1.1) fun j hj => ?_, canon_rs h.2 _ _⟩
  rw [rg_rs (by rw [h.1.1]; exact hk)]
  split
  · rename_i e; subst e; exact hv
  · exact digit_of h.1 hj
theorem carry_ok : ∀ (k : Nat) {ch : List (List D)}, k ≤ w.length → carOK w ch → carOK w (carryF w k ch).1 ∧ -1 ≤ (carryF w k ch).2 ∧ (carryF w k ch).2 < k ∧ (0 ≤ (carryF w k ch).2 → rg (carryF w k ch).1 (carryF w k ch).2.toNat + 1 < hoursN w (carryF w k ch).2.toNat) ∧ ∀ j, k ≤ j → rg (carryF w k ch).1 j = rg ch j
  | 0, ch, _, h => ⟨h, by simp [carryF], by simp [carryF], by simp [carryF], fun _ _ => rfl⟩
  | k + 1, ch, hk, h => by
    simp only [carryF]
    by_cases hc : rg ch k + 1 ≥ hoursN w k
    · rw [if_pos hc]
      obtain ⟨a, b, c, d, e⟩ := carry_ok k (by omega) (set_ok h (by omega) (zero_digit (w := w) k))
      refine ⟨a, b, by omega, d, fun j hj => ?_⟩
      rw [e j (by omega), rg_rs (by rw [h.1.1]; omega), if_neg (by omega)]
    · rw [if_neg hc]
      exact ⟨h, by omega, by omega, fun _ => by simp only [Int.toNat_natCast]; omega, fun _ _ => rfl⟩
theorem step_ok {ch : List (List D)} (h : carOK w ch) (h0 : 0 ≤ (carryF w w.length ch).2) : carOK w (stepC (carryF w w.length ch)) := by
  obtain ⟨a, b, c, d, e⟩ := carry_ok w.length (Nat.le_refl _) h
  have hj : (carryF w w.length ch).2.toNat < w.length := by omega
  refine set_ok a hj ?_
  have h1 := digit_of a.1 hj
  have h2 := d h0
  rcases h1 with h1 | h1
  · omega
  · exact .inr ⟨by omega, h2⟩
theorem val_congr {ch ch' : List (List D)} : ∀ (k : Nat), (∀ j, j < k → rg ch j = rg ch' j) → valC w ch k = valC w ch' k
  | 0, _ => rfl
  | k + 1, h => by
    simp only [valC]
    rw [val_congr k (fun j hj => h j (by omega)), h k (by omega)]
theorem val_lt {ch : List (List D)} (hc : chOK w ch) : ∀ (k : Nat), k ≤ w.length → valC w ch k < prodF w k
  | 0, _ => Nat.zero_lt_one
  | k + 1, hk => by
    have ih := val_lt hc k (by omega)
    have hd := digit_of hc (show k < w.length by omega)
    have hL : (max 0 (rg ch k)).toNat < (max 1 (hoursN w k)).toNat := by omega
    simp only [valC, prodF]
    generalize (max 0 (rg ch k)).toNat = d at hL
    generalize (max 1 (hoursN w k)).toNat = L at hL ⊢
    calc valC w ch k * L + d < valC w ch k * L + L := by omega
      _ = (valC w ch k + 1) * L := by rw [Nat.add_mul, Nat.one_mul]
      _ ≤ prodF w k * L := Nat.mul_le_mul_right _ ih
theorem val_carry : ∀ (k : Nat) {ch : List (List D)}, k ≤ w.length → carOK w ch → ((carryF w k ch).2 < 0 → valC w ch k + 1 = prodF w k) ∧ (0 ≤ (carryF w k ch).2 → valC w (stepC (carryF w k ch)) k = valC w ch k + 1)
  | 0, ch, _, h => ⟨fun _ => rfl, fun h => by simp [carryF] at h⟩
  | k + 1, ch, hk, h => by
    have hkl : k < w.length := by omega
    have hd := digit_of h.1 hkl
    by_cases hc : rg ch k + 1 ≥ hoursN w k
    · have hset := set_ok h hkl (zero_digit (w := w) k)
      have hL : (max 0 (rg ch k)).toNat + 1 = (max 1 (hoursN w k)).toNat := by omega
      have hv : valC w (rs ch k (zeroC w k)) k = valC w ch k := val_congr k fun j hj => by rw [rg_rs (by rw [h.1.1]; exact hkl), if_neg (by omega)]
      obtain ⟨i1, i2⟩ := val_carry k (by omega) hset
      obtain ⟨a, b, c, d, e⟩ := carry_ok k (by omega) hset
      simp only [carryF]
      rw [if_pos hc]
      simp only [valC, prodF]
      generalize (max 1 (hoursN w k)).toNat = L at hL ⊢
      refine ⟨fun hn => ?_, fun hp => ?_⟩
      · have := i1 hn
        rw [hv] at this
        rw [← this, Nat.add_mul, Nat.one_mul]
        omega
      · have := i2 hp
        rw [hv] at this
        have e1 : rg (stepC (carryF w k (rs ch k (zeroC w k)))) k = zeroC w k := by
          unfold stepC
          rw [rg_rs (by rw [a.1.1]; omega), if_neg (by omega), e k (Nat.le_refl _), rg_rs (by rw [h.1.1]; exact hkl), if_pos rfl]
        have hz := zero_digit (w := w) k
        have e2 : (max 0 (zeroC w k)).toNat = 0 := by rw [zero_eq] at hz ⊢; omega
        rw [this, e1, e2, Nat.add_mul, Nat.one_mul]
        omega
    · simp only [carryF]
      rw [if_neg hc]
      refine ⟨fun hn => by simp only at hn; omega, fun _ => ?_⟩
      simp only [stepC, Int.toNat_natCast, valC]
      have hv : valC w (rs ch k (rg ch k + 1)) k = valC w ch k := val_congr k fun j hj => by rw [rg_rs (by rw [h.1.1]; exact hkl), if_neg (by omega)]
      rw [hv, rg_rs (by rw [h.1.1]; exact hkl), if_pos rfl]
      omega
theorem rest_pos {ch : List (List D)} (h : carOK w ch) : 0 < restC w ch := by
  have := val_lt h.1 w.length (Nat.le_refl _)
  unfold restC
  omega
theorem rest_last {ch : List (List D)} (h : carOK w ch) (hn : (carryF w w.length ch).2 < 0) : restC w ch = 1 := by
  have := (val_carry w.length (Nat.le_refl _) h).1 hn
  unfold restC
  omega
theorem rest_step {ch : List (List D)} (h : carOK w ch) (hn : 0 ≤ (carryF w w.length ch).2) : restC w ch = restC w (stepC (carryF w w.length ch)) + 1 := by
  have h1 := (val_carry w.length (Nat.le_refl _) h).2 hn
  have h2 := val_lt (step_ok h hn).1 w.length (Nat.le_refl _)
  unfold restC
  omega
theorem val_first : ∀ (k : Nat), k ≤ w.length → valC w (firstC w) k = 0
  | 0, _ => rfl
  | k + 1, hk => by
    simp only [valC]
    have hz := zero_digit (w := w) k
    have e2 : (max 0 (zeroC w k)).toNat = 0 := by rw [zero_eq] at hz ⊢; omega
    rw [val_first k (by omega)]
    unfold firstC
    rw [rg_rowF (by omega), Nat.zero_add, e2]
    omega
theorem rest_first : restC w (firstC w) = prodF w w.length := by
  unfold restC
  rw [val_first _ (Nat.le_refl _)]
  rfl
theorem all_rest {ch : List (List D)} (h : carOK w ch) : allC w (restC w ch) ch = [.i ch.length, .l ch] :: (if (carryF w w.length ch).2 < 0 then [] else allC w (restC w (stepC (carryF w w.length ch))) (stepC (carryF w w.length ch))) := by
  by_cases hn : (carryF w w.length ch).2 < 0
  · rw [rest_last h hn]
    simp only [allC]
    rw [if_pos hn, if_pos hn]
  · rw [rest_step h (by omega)]
    simp only [allC]
end
end Go.Proofs.Ytipbcpobnciccaa
namespace Go.Proofs.Ytipbcpobnciccaa
open Go.Lite
noncomputable def sp56 : SpL := []
noncomputable def lp56 : LpL := []
noncomputable def sw56 : SwL := []
noncomputable def tab56 : Tab := mkTab sp56 lp56 sw56
noncomputable def sp77 : SpL := []
noncomputable def lp77 (q : Nat) : LpL := [(2, mkLY 1 l77_2 (G77_2 q)), (7, mkLY 1 l77_7 (G77_7 q)), (9, mkLY 1 l77_9 (G77_9 q))]
noncomputable def sw77 : SwL := []
noncomputable def tab77 (q : Nat) : Tab := mkTabY sp77 (lp77 q) sw77 y77 q
end Go.Proofs.Ytipbcpobnciccaa
namespace Go.Proofs.Ytipbcpobnciccaa
open Go.Lite
set_option linter.unusedVariables false
set_option maxRecDepth 100000
theorem t56 (a b c : D) : fnTW C tab56 56 s56 [a, b, c] =
  T.leaf [D.i a.I, D.i b.I, D.l c.L] := by kernel_rfl
theorem t77 (q : Nat) (a b c : D) : fnTY C (tab77 q) 77 s77 [a, b, c] =
  T.need (decide ((0 : Int) ≤ (c.L.length : Int) ∧ (c.L.length : Int) = (c.L.length : Int) ∧ (c.L.length : Int) ≤ (2 : Int) ^ 40 ∧ (↑Try.prog.types[3].bytes : Int) * (c.L.length : Int) ≤ (2 : Int) ^ 46)) (T.need (yes (planB a.I b.I c.L = true ∧ c.L = c.L ∧ (c.L.length : Int) = (c.L.length : Int) ∧ (↑(List.length (List.replicate (Int.toNat (c.L.length : Int)) [D.i 0])) : Int) = (c.L.length : Int) ∧ ((0 : Int) ≤ (0 : Int) ∧ (0 : Int) ≤ (c.L.length : Int)) ∧ List.replicate (Int.toNat (c.L.length : Int)) [D.i 0] = rowF (zeroC c.L) 0 (Int.toNat (0 : Int)) ++ zerR (c.L.length - Int.toNat (0 : Int)))) (T.need (yes (planB a.I b.I c.L = true ∧ fewC c.L ∧ (↑(Int.toNat (↑(Int.toNat (↑(List.length (List.replicate (Int.toNat (c.L.length : Int)) [D.i 0])) : Int)) : Int)) : Int) = (c.L.length : Int) ∧ carOK c.L (firstC c.L) ∧ List.length ([] : List (List D)) ≤ q)) (T.leaf ([] ++ List.take (q + 1 - List.length ([] : List (List D))) (allC c.L (restC c.L (firstC c.L)) (firstC c.L)))))) := by kernel_rfl
theorem t77_2 (q : Nat) (a b c d e f g h i : D) : roundTY C (tab77 q) 77 (loopOf C.P 77 2) 1 l77_2 [a, b, c, d, e, f, g, h, i] =
  T.ite (decide (e.I < d.I)) (T.need (decide ((0 : Int) ≤ e.I ∧ e.I < (c.L.length : Int))) (T.ite ((↑(List.length (D.L (List.getD (List.getD c.L e.I.toNat []) (0 + 1 + 1 + 1 + 1 + 1 + 1 + 1) default))) : Int) == (0 : Int)) (T.need (decide ((0 : Int) ≤ e.I ∧ e.I < (b.I.toNat : Int))) (T.need (decide (e.I.toNat < i.L.length)) (T.leaf (Rd.again [D.l a.L, D.i (b.I.toNat : Int), D.l c.L, D.i d.I, D.i (IntKind.wrap IntKind.i64 (e.I + (1 : Int))), D.i f.I, D.i g.I, D.l h.L, D.l (List.set i.L e.I.toNat (updC (List.getD i.L e.I.toNat []) [D.i (-1 : Int)] 0 0 (List.length [K.int IntKind.i64])))])))) (T.leaf (Rd.again [D.l a.L, D.i (b.I.toNat : Int), D.l c.L, D.i d.I, D.i (IntKind.wrap IntKind.i64 (e.I + (1 : Int))), D.i f.I, D.i g.I, D.l h.L, D.l i.L])))) (T.leaf (Rd.out (Ex.exit 0) [D.l a.L, D.i (b.I.toNat : Int), D.i f.I, D.i g.I, D.l h.L, D.l i.L])) := by kernel_rfl
theorem t77_7 (q : Nat) (a b c d e f : D) : roundTY C (tab77 q) 77 (loopOf C.P 77 7) 1 l77_7 [a, b, c, d, e, f] =
  T.ite (!!a.L.length == (tab77 q).q) (T.leaf (Rd.out Ex.ret [D.l (a.L ++ [[D.i (b.I.toNat : Int)] ++ [] ++ ([D.l f.L] ++ [])]), D.i c.I, D.i d.I, D.l e.L])) (T.need (yes (planB c.I d.I e.L = true ∧ (b.I.toNat : Int) = (e.L.length : Int) ∧ carOK e.L f.L ∧ (-1 : Int) ≤ IntKind.wrap IntKind.i64 ((b.I.toNat : Int) - (1 : Int)) ∧ IntKind.wrap IntKind.i64 ((b.I.toNat : Int) - (1 : Int)) < (e.L.length : Int))) (T.ite (decide ((carryF e.L (Int.toNat (IntKind.wrap IntKind.i64 ((b.I.toNat : Int) - (1 : Int)) + (1 : Int))) f.L).snd < (0 : Int))) (T.leaf (Rd.out Ex.ret [D.l (a.L ++ [[D.i (b.I.toNat : Int)] ++ [] ++ ([D.l f.L] ++ [])]), D.i c.I, D.i d.I, D.l e.L])) (T.need (decide ((0 : Int) ≤ (carryF e.L (Int.toNat (IntKind.wrap IntKind.i64 ((b.I.toNat : Int) - (1 : Int)) + (1 : Int))) f.L).snd ∧ (carryF e.L (Int.toNat (IntKind.wrap IntKind.i64 ((b.I.toNat : Int) - (1 : Int)) + (1 : Int))) f.L).snd < (↑(Int.toNat (↑(Int.toNat (b.I.toNat : Int)) : Int)) : Int))) (T.need (decide (Int.toNat (carryF e.L (Int.toNat (IntKind.wrap IntKind.i64 ((b.I.toNat : Int) - (1 : Int)) + (1 : Int))) f.L).snd < List.length (carryF e.L (Int.toNat (IntKind.wrap IntKind.i64 ((b.I.toNat : Int) - (1 : Int)) + (1 : Int))) f.L).fst)) (T.need (decide ((0 : Int) ≤ (carryF e.L (Int.toNat (IntKind.wrap IntKind.i64 ((b.I.toNat : Int) - (1 : Int)) + (1 : Int))) f.L).snd ∧ (carryF e.L (Int.toNat (IntKind.wrap IntKind.i64 ((b.I.toNat : Int) - (1 : Int)) + (1 : Int))) f.L).snd < (↑(Int.toNat (↑(Int.toNat (b.I.toNat : Int)) : Int)) : Int))) (T.need (decide (Int.toNat (carryF e.L (Int.toNat (IntKind.wrap IntKind.i64 ((b.I.toNat : Int) - (1 : Int)) + (1 : Int))) f.L).snd < List.length (carryF e.L (Int.toNat (IntKind.wrap IntKind.i64 ((b.I.toNat : Int) - (1 : Int)) + (1 : Int))) f.L).fst)) (T.leaf (Rd.again [D.l (a.L ++ [[D.i (b.I.toNat : Int)] ++ [] ++ ([D.l f.L] ++ [])]), D.i (↑(Int.toNat (↑(Int.toNat (b.I.toNat : Int)) : Int)) : Int), D.i c.I, D.i d.I, D.l e.L, D.l (List.set (carryF e.L (Int.toNat (IntKind.wrap IntKind.i64 ((b.I.toNat : Int) - (1 : Int)) + (1 : Int))) f.L).fst (Int.toNat (carryF e.L (Int.toNat (IntKind.wrap IntKind.i64 ((b.I.toNat : Int) - (1 : Int)) + (1 : Int))) f.L).snd) (updC (List.getD (carryF e.L (Int.toNat (IntKind.wrap IntKind.i64 ((b.I.toNat : Int) - (1 : Int)) + (1 : Int))) f.L).fst (Int.toNat (carryF e.L (Int.toNat (IntKind.wrap IntKind.i64 ((b.I.toNat : Int) - (1 : Int)) + (1 : Int))) f.L).snd) []) [D.i (IntKind.wrap IntKind.i64 (D.I (List.getD (List.getD (carryF e.L (Int.toNat (IntKind.wrap IntKind.i64 ((b.I.toNat : Int) - (1 : Int)) + (1 : Int))) f.L).fst (Int.toNat (carryF e.L (Int.toNat (IntKind.wrap IntKind.i64 ((b.I.toNat : Int) - (1 : Int)) + (1 : Int))) f.L).snd) []) 0 default) + (1 : Int)))] 0 0 (List.length [K.int IntKind.i64])))])))))))) := by kernel_rfl
theorem t77_9 (q : Nat) (a b c d e f g : D) : roundTY C (tab77 q) 77 (loopOf C.P 77 9) 1 l77_9 [a, b, c, d, e, f, g] =
  T.ite (decide (c.I ≥ (0 : Int))) (T.need (decide ((0 : Int) ≤ c.I ∧ c.I < (b.I.toNat : Int))) (T.need (decide (c.I.toNat < g.L.length)) (T.need (decide ((0 : Int) ≤ c.I ∧ c.I < (f.L.length : Int))) (T.ite (decide (D.I (List.getD (List.getD g.L c.I.toNat []) 0 default) ≥ IntKind.wrap IntKind.i64 ((↑(List.length (D.L (List.getD (List.getD f.L c.I.toNat []) (0 + 1 + 1 + 1 + 1 + 1 + 1 + 1) default))) : Int) - (1 : Int)))) (T.need (decide ((0 : Int) ≤ c.I ∧ c.I < (b.I.toNat : Int))) (T.need (decide (c.I.toNat < g.L.length)) (T.ite (decide (D.I (List.getD (List.getD g.L c.I.toNat []) 0 default) > (0 : Int))) (T.need (decide ((0 : Int) ≤ c.I ∧ c.I < (b.I.toNat : Int))) (T.need (decide (c.I.toNat < g.L.length)) (T.leaf (Rd.again [D.l a.L, D.i (b.I.toNat : Int), D.i (IntKind.wrap IntKind.i64 (c.I - (1 : Int))), D.i d.I, D.i e.I, D.l f.L, D.l (List.set g.L c.I.toNat (updC (List.getD g.L c.I.toNat []) [D.i 0] 0 0 (List.length [K.int IntKind.i64])))])))) (T.leaf (Rd.again [D.l a.L, D.i (b.I.toNat : Int), D.i (IntKind.wrap IntKind.i64 (c.I - (1 : Int))), D.i d.I, D.i e.I, D.l f.L, D.l g.L]))))) (T.leaf (Rd.out (Ex.exit 4) [D.l a.L, D.i (b.I.toNat : Int), D.i c.I, D.i d.I, D.i e.I, D.l f.L, D.l g.L])))))) (T.leaf (Rd.out (Ex.exit 4) [D.l a.L, D.i (b.I.toNat : Int), D.i c.I, D.i d.I, D.i e.I, D.l f.L, D.l g.L])) := by kernel_rfl
end Go.Proofs.Ytipbcpobnciccaa
