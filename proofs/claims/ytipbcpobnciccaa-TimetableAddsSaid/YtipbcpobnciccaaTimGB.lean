/-
  Shapes of arguments, results and loops. Written by program.
  What the functions that raise times compute.
  Tables. Written by program.
  What the rounds and the functions come to. Written by program.
  What the rounds and the functions come to. Written by program.
  The functions that raise times compute what their words say.
-/
import Derived.Test.YtipbcpobnciccaaTimGA
namespace Go.Proofs.Ytipbcpobnciccaa
open Go.Lite
def s49 : Sig := ⟨[.k (.int .i64), .k (.ro [.int .i64, .int .i64, .int .i64])], [(.ptr 0 2 0 0, [.box [.k (.int .i64), .sl 1 3], .row [.int .i64, .int .i64, .int .i64]]), (.ptr 0 2 0 0, [.box [.k (.int .i64), .emp 3]])]⟩
def l49_3 : LSig := mkLS [5, 12, 13] [(29, [(5, .ptr 0 2 0 0), (12, .k (.int .i64)), (13, .k (.int .i64))], [.box [.k (.int .i64), .sl 1 3], .row [.int .i64, .int .i64, .int .i64]]), (29, [(5, .ptr 0 2 0 0), (12, .k (.int .i64)), (13, .k (.int .i64))], [.box [.k (.int .i64), .emp 3]])] [(.exit 0, [5], [(29, [(5, .ptr 0 2 0 0)], [.box [.k (.int .i64), .sl 1 3], .row [.int .i64, .int .i64, .int .i64]]), (29, [(5, .ptr 0 2 0 0)], [.box [.k (.int .i64), .emp 3]])])]
def s55 : Sig := ⟨[.k (.int .i64), .k (.ro [.int .i64, .int .i64, .int .i64])], [(.nils, []), (.sl 0 3, [.row [.int .i64, .int .i64, .int .i64]])]⟩
def l55_3 : LSig := mkLS [0, 5, 6] [(20, [(0, .k (.int .i64)), (5, .nils), (6, .k (.int .i64))], []), (20, [(0, .k (.int .i64)), (5, .sl 0 3), (6, .k (.int .i64))], [.row [.int .i64, .int .i64, .int .i64]])] [(.exit 0, [5], [(20, [(5, .nils)], []), (20, [(5, .sl 0 3)], [.row [.int .i64, .int .i64, .int .i64]])])]
def s53 : SigW := ⟨[.sl 0 1], [.row [.int .i64]], [(.tup [], [.row [.int .i64]])]⟩
def l53_1 : LSig := mkLS [0, 2, 3] [(28, [(0, .sl 0 1), (2, .k (.int .i64)), (3, .k (.int .i64))], [.row [.int .i64]])] [(.exit 0, [], [(28, [], [.row [.int .i64]])])]
def s68 : SigW := ⟨[.eptr [.k (.int .i64), .k (.ro [.int .i64, .int .i64, .int .i64])], .sl 0 1], [.row [.int .i64]], [(.tup [.sl 1 1, .k (.int .i64)], [.row [.int .i64], .row [.int .i64]])]⟩
def l68_3 : LSig := mkLS [0, 1, 6, 18, 19] [(76, [(0, .eptr [.k (.int .i64), .k (.ro [.int .i64, .int .i64, .int .i64])]), (1, .sl 0 1), (6, .sl 1 1), (18, .k (.int .i64)), (19, .k (.int .i64))], [.row [.int .i64], .row [.int .i64]])] [(.exit 0, [0, 1, 6], [(76, [(0, .eptr [.k (.int .i64), .k (.ro [.int .i64, .int .i64, .int .i64])]), (1, .sl 0 1), (6, .sl 1 1)], [.row [.int .i64], .row [.int .i64]])])]
def l68_9 : LSig := mkLS [0, 1, 6, 8, 30, 31] [(76, [(0, .eptr [.k (.int .i64), .k (.ro [.int .i64, .int .i64, .int .i64])]), (1, .sl 0 1), (6, .sl 1 1), (8, .k (.int .i64)), (30, .k (.int .i64)), (31, .k (.int .i64))], [.row [.int .i64], .row [.int .i64]])] [(.exit 2, [6, 8], [(76, [(6, .sl 1 1), (8, .k (.int .i64))], [.row [.int .i64], .row [.int .i64]])])]
def l68_12 : LSig := mkLS [0, 1, 6, 8, 30, 31, 36, 37, 38] [(76, [(0, .eptr [.k (.int .i64), .k (.ro [.int .i64, .int .i64, .int .i64])]), (1, .sl 0 1), (6, .sl 1 1), (8, .k (.int .i64)), (30, .k (.int .i64)), (31, .k (.int .i64)), (36, .k (.ro [.int .i64, .int .i64, .int .i64])), (37, .k (.int .i64)), (38, .k (.int .i64))], [.row [.int .i64], .row [.int .i64]])] [(.exit 4, [0, 1, 6, 8, 30, 31], [(76, [(0, .eptr [.k (.int .i64), .k (.ro [.int .i64, .int .i64, .int .i64])]), (1, .sl 0 1), (6, .sl 1 1), (8, .k (.int .i64)), (30, .k (.int .i64)), (31, .k (.int .i64))], [.row [.int .i64], .row [.int .i64]])])]
end Go.Proofs.Ytipbcpobnciccaa

namespace Go.Proofs.Ytipbcpobnciccaa
open Go.Lite
noncomputable section

/-! ### Rows of integers -/
def rg (R : List (List D)) (j : Nat) : Int := ix (R.getD j []) 0
def rs (R : List (List D)) (j : Nat) (v : Int) : List (List D) := R.set j [.i v]
def bndR (R : List (List D)) (M : Int) : Prop := ∀ j, -M ≤ rg R j ∧ rg R j ≤ M

/-! ### All links -/
def extraF : Nat → Nat → List (List D)
  | _, 0 => []
  | i, k + 1 => [.i 0, .i (i : Int), .i 0] :: extraF (i + 1) k
def allL (n : Int) (l : List (List D)) : List (List D) := l ++ extraF 0 n.toNat
def netP (n : Int) (l : List (List D)) : Prop := netOk n l = true
/-- Links between so many moments. -/
def goodL (n : Int) (l : List (List D)) : Prop := 1 ≤ n ∧ n ≤ 500 ∧ l.length ≤ 5500 ∧ ∀ i, i < l.length → (0 ≤ lkF l i ∧ lkF l i < n) ∧ (0 ≤ lkT l i ∧ lkT l i < n) ∧ (-1000000 ≤ lkW l i ∧ lkW l i ≤ 1000000)

/-! ### Raising -/
abbrev RSt := List (List D) × List (List D) × Int
def stepR (l : List (List D)) (i : Nat) (s : RSt) : RSt :=
  if rg s.1 (lkF l i).toNat + lkW l i > rg s.1 (lkT l i).toNat then (rs s.1 (lkT l i).toNat (rg s.1 (lkF l i).toNat + lkW l i), rs s.2.1 (lkT l i).toNat i, lkT l i) else s
def passR (l : List (List D)) : Nat → Nat → RSt → RSt
  | _, 0, s => s
  | i, k + 1, s => passR l (i + 1) k (stepR l i s)
def roundsR (l : List (List D)) : Nat → RSt → RSt
  | 0, s => s
  | k + 1, s => if (passR l 0 l.length (s.1, s.2.1, -1)).2.2 < 0 then passR l 0 l.length (s.1, s.2.1, -1) else roundsR l k (passR l 0 l.length (s.1, s.2.1, -1))
def pushR (n : Int) (l t : List (List D)) : RSt := roundsR l (n.toNat + 1) (t, List.replicate n.toNat [.i (-1)], -1)

/-! ### The other way round -/
def revR : Nat → Nat → List (List D) → List (List D)
  | _, 0, r => r
  | i, k + 1, r => if (i : Int) < r.length - 1 - i then revR (i + 1) k (rs (rs r i (rg r (r.length - 1 - i))) (r.length - 1 - i) (rg r i)) else r

/-! ### The functions -/
def G49 (ds : List D) : T (List D) := match ds with
  | [n, l] => .need (yes (netP n.I l.L)) (.leaf [.i 0, .i n.I, .i (allL n.I l.L).length, .l (allL n.I l.L)])
  | _ => .fail
def G49_3 (ds : List D) : T (Ex × List D) := match ds with
  | [j, k, i, n, m, r] => .need (yes (j.I = 0 ∧ 0 ≤ i.I ∧ i.I ≤ k.I ∧ k.I ≤ 500 ∧ m.I = r.L.length ∧ r.L.length + (k.I - i.I) ≤ 5500))
      (.leaf (.exit 0, [.i 0, .i n.I, .i (r.L ++ extraF i.I.toNat (k.I - i.I).toNat).length, .l (r.L ++ extraF i.I.toNat (k.I - i.I).toNat)]))
  | [j, k, i, n] => .need (yes (j.I = 1 ∧ i.I = 0 ∧ 1 ≤ k.I ∧ k.I ≤ 500)) (.leaf (.exit 0, [.i 0, .i n.I, .i (extraF 0 k.I.toNat).length, .l (extraF 0 k.I.toNat)]))
  | _ => .fail
def G55 (ds : List D) : T (List D) := match ds with
  | [n, l] => .need (yes (netP n.I l.L)) (.leaf [.i 1, .i (allL n.I l.L).length, .l (allL n.I l.L)])
  | _ => .fail
def G55_3 (ds : List D) : T (Ex × List D) := match ds with
  | [j, n, m, i, r] => .need (yes (j.I = 1 ∧ 0 ≤ i.I ∧ i.I ≤ n.I ∧ n.I ≤ 500 ∧ m.I = r.L.length ∧ r.L.length + (n.I - i.I) ≤ 5500))
      (.leaf (.exit 0, [.i 1, .i (r.L ++ extraF i.I.toNat (n.I - i.I).toNat).length, .l (r.L ++ extraF i.I.toNat (n.I - i.I).toNat)]))
  | [j, n, i] => .need (yes (j.I = 0 ∧ i.I = 0 ∧ 1 ≤ n.I ∧ n.I ≤ 500)) (.leaf (.exit 0, [.i 1, .i (extraF 0 n.I.toNat).length, .l (extraF 0 n.I.toNat)]))
  | _ => .fail
def G53 (ds : List D) : T (List D) := match ds with
  | [m, r] => .need (yes (m.I = r.L.length ∧ r.L.length ≤ 1000000)) (.leaf [.l (revR 0 r.L.length r.L)])
  | _ => .fail
def G53_1 (ds : List D) : T (Ex × List D) := match ds with
  | [m, i, j, r] => .need (yes (m.I = r.L.length ∧ r.L.length ≤ 1000000 ∧ 0 ≤ i.I ∧ i.I ≤ r.L.length ∧ j.I = r.L.length - 1 - i.I)) (.leaf (.exit 0, [.l (revR i.I.toNat (r.L.length - i.I.toNat) r.L)]))
  | _ => .fail
def G68 (ds : List D) : T (List D) := match ds with
  | [n, l, m, t] => .need (yes (goodL n.I l.L ∧ m.I = n.I ∧ (t.L.length : Int) = n.I ∧ bndR t.L 1099511627776))
      (.leaf [.i n.I, .i (pushR n.I l.L t.L).2.2, .l (pushR n.I l.L t.L).1, .l (pushR n.I l.L t.L).2.1])
  | _ => .fail
def G68_3 (ds : List D) : T (Ex × List D) := match ds with
  | [n, l, m, q, k, i, t, b] => .need (yes (1 ≤ n.I ∧ n.I ≤ 500 ∧ m.I = n.I ∧ q.I = n.I ∧ k.I = n.I ∧ 0 ≤ i.I ∧ i.I ≤ n.I ∧ b.L = List.replicate i.I.toNat [.i (-1)] ++ List.replicate (n.I - i.I).toNat [.i 0]))
      (.leaf (.exit 0, [.i n.I, .l l.L, .i n.I, .i n.I, .l t.L, .l (List.replicate n.I.toNat [.i (-1)])]))
  | _ => .fail
/-- So many raisings more do not make a number too great. -/
def room (t : List (List D)) (k : Int) : Prop := ∃ M : Int, bndR t M ∧ M + 1000000 * k ≤ 4611686018427387904
def G68_9 (ds : List D) : T (Ex × List D) := match ds with
  | [n, l, m, q, r, k, i, t, b] => .need (yes (goodL n.I l.L ∧ m.I = n.I ∧ q.I = n.I ∧ k.I = n.I + 1 ∧ 0 ≤ i.I ∧ i.I ≤ n.I + 1 ∧ (t.L.length : Int) = n.I ∧ (b.L.length : Int) = n.I ∧ room t.L (l.L.length * (n.I + 1 - i.I))))
      (.leaf (.exit 2, [.i n.I, .i (roundsR l.L (n.I + 1 - i.I).toNat (t.L, b.L, r.I)).2.2, .l (roundsR l.L (n.I + 1 - i.I).toNat (t.L, b.L, r.I)).1, .l (roundsR l.L (n.I + 1 - i.I).toNat (t.L, b.L, r.I)).2.1]))
  | _ => .fail
def G68_12 (ds : List D) : T (Ex × List D) := match ds with
  | [n, l, m, q, r, k, i, l', k', i', t, b] => .need (yes (goodL n.I l.L ∧ m.I = n.I ∧ q.I = n.I ∧ l'.L = l.L ∧ k'.I = l.L.length ∧ 0 ≤ i'.I ∧ i'.I ≤ l.L.length ∧ (t.L.length : Int) = n.I ∧ (b.L.length : Int) = n.I ∧ room t.L (l.L.length - i'.I)))
      (.leaf (.exit 4, [.i n.I, .l l.L, .i n.I, .i n.I, .i (passR l.L i'.I.toNat (l.L.length - i'.I.toNat) (t.L, b.L, r.I)).2.2, .i k.I, .i i.I, .l (passR l.L i'.I.toNat (l.L.length - i'.I.toNat) (t.L, b.L, r.I)).1, .l (passR l.L i'.I.toNat (l.L.length - i'.I.toNat) (t.L, b.L, r.I)).2.1]))
  | _ => .fail
end
end Go.Proofs.Ytipbcpobnciccaa

namespace Go.Proofs.Ytipbcpobnciccaa
open Go.Lite
noncomputable def sp49 : SpL := [(75, mkF s75 Gcl)]
noncomputable def lp49 : LpL := [(3, mkL l49_3 G49_3)]
noncomputable def sw49 : SwL := []
noncomputable def tab49 : Tab := mkTab sp49 lp49 sw49
noncomputable def sp55 : SpL := []
noncomputable def lp55 : LpL := [(3, mkL l55_3 G55_3)]
noncomputable def sw55 : SwL := []
noncomputable def tab55 : Tab := mkTab sp55 lp55 sw55
noncomputable def sp53 : SpL := []
noncomputable def lp53 : LpL := [(1, mkLK 1 l53_1 G53_1)]
noncomputable def sw53 : SwL := []
noncomputable def tab53 : Tab := mkTab sp53 lp53 sw53
noncomputable def sp68 : SpL := []
noncomputable def lp68 : LpL := [(3, mkLK 1 l68_3 G68_3), (9, mkLK 1 l68_9 G68_9), (12, mkLK 1 l68_12 G68_12)]
noncomputable def sw68 : SwL := []
noncomputable def tab68 : Tab := mkTab sp68 lp68 sw68
end Go.Proofs.Ytipbcpobnciccaa

namespace Go.Proofs.Ytipbcpobnciccaa
open Go.Lite
set_option linter.unusedVariables false
set_option maxRecDepth 100000
theorem t49 (a b : D) : fnT C tab49 49 s49 [a, b] =
  T.need (yes (List.length (D.L b) ≤ 1073741824)) (T.ite (List.isEmpty (D.L b)) (T.need (yes ((↑(0 + 1) : Int) = (1 : Int) ∧ (0 : Int) = (0 : Int) ∧ (1 : Int) ≤ D.I a ∧ D.I a ≤ (500 : Int))) (T.leaf [D.i (0 : Int), D.i (D.I a), D.i (↑(Int.toNat (↑(List.length (extraF 0 (Int.toNat (D.I a)))) : Int)) : Int), D.l (extraF 0 (Int.toNat (D.I a)))])) (T.need (yes ((↑0 : Int) = (0 : Int) ∧ (0 : Int) ≤ (0 : Int) ∧ (0 : Int) ≤ D.I a ∧ D.I a ≤ (500 : Int) ∧ (↑(Int.toNat (↑(List.length (D.L b)) : Int)) : Int) = (↑(List.length (D.L b)) : Int) ∧ (↑(List.length (D.L b)) : Int) + (D.I a - (0 : Int)) ≤ (5500 : Int))) (T.leaf [D.i (0 : Int), D.i (D.I a), D.i (↑(Int.toNat (↑(List.length (D.L b ++ extraF (Int.toNat (0 : Int)) (Int.toNat (D.I a - (0 : Int))))) : Int)) : Int), D.l (D.L b ++ extraF (Int.toNat (0 : Int)) (Int.toNat (D.I a - (0 : Int))))]))) := by kernel_rfl
theorem t49_3_0 (a b c d e : D) : roundT C tab49 49 (loopOf C.P 49 3) l49_3 [.i 0, a, b, c, d, e] =
  T.ite (decide (D.I b < D.I a)) (T.need true (T.ite false (T.leaf (Rd.again [D.i (0 : Int), D.i (D.I a), D.i (IntKind.wrap IntKind.i64 (D.I b + (1 : Int))), D.i (D.I c), D.i (↑(Int.toNat (D.I d)) : Int), D.l (D.L e)])) (T.need (decide (Int.toNat (D.I d) ≤ List.length (D.L e) ∧ Int.toNat (D.I d) + List.length (List.take (List.length [[D.i (0 : Int), D.i (D.I b), D.i (0 : Int)]]) [[D.i (0 : Int), D.i (D.I b), D.i (0 : Int)]]) ≤ 2 ^ 62 ∧ (Int.toNat (D.I d) + List.length (List.take (List.length [[D.i (0 : Int), D.i (D.I b), D.i (0 : Int)]]) [[D.i (0 : Int), D.i (D.I b), D.i (0 : Int)]])) * Try.prog.types[58].bytes ≤ 2 ^ 47)) (T.leaf (Rd.again [D.i (0 : Int), D.i (D.I a), D.i (IntKind.wrap IntKind.i64 (D.I b + (1 : Int))), D.i (D.I c), D.i (↑(Int.toNat (D.I d) + List.length (List.take (List.length [[D.i (0 : Int), D.i (D.I b), D.i (0 : Int)]]) [[D.i (0 : Int), D.i (D.I b), D.i (0 : Int)]])) : Int), D.l (List.take (Int.toNat (D.I d)) (D.L e) ++ List.take (List.length [[D.i (0 : Int), D.i (D.I b), D.i (0 : Int)]]) [[D.i (0 : Int), D.i (D.I b), D.i (0 : Int)]])]))))) (T.leaf (Rd.out (Ex.exit 0) [D.i (0 : Int), D.i (D.I c), D.i (↑(Int.toNat (D.I d)) : Int), D.l (D.L e)])) := by kernel_rfl
theorem t49_3_1 (a b c : D) : roundT C tab49 49 (loopOf C.P 49 3) l49_3 [.i 1, a, b, c] =
  T.ite (decide (D.I b < D.I a)) (T.need true (T.ite false (T.leaf (Rd.again [D.i (1 : Int), D.i (D.I a), D.i (IntKind.wrap IntKind.i64 (D.I b + (1 : Int))), D.i (D.I c)])) (T.need true (T.leaf (Rd.again [D.i (0 : Int), D.i (D.I a), D.i (IntKind.wrap IntKind.i64 (D.I b + (1 : Int))), D.i (D.I c), D.i (1 : Int), D.l [[D.i (0 : Int), D.i (D.I b), D.i (0 : Int)]]]))))) (T.leaf (Rd.out (Ex.exit 0) [D.i (1 : Int), D.i (D.I c)])) := by kernel_rfl
theorem t55 (a b : D) : fnT C tab55 55 s55 [a, b] =
  T.ite (List.isEmpty (D.L b)) (T.need (yes ((↑0 : Int) = (0 : Int) ∧ (0 : Int) = (0 : Int) ∧ (1 : Int) ≤ D.I a ∧ D.I a ≤ (500 : Int))) (T.leaf [D.i (1 : Int), D.i (↑(Int.toNat (↑(List.length (extraF 0 (Int.toNat (D.I a)))) : Int)) : Int), D.l (extraF 0 (Int.toNat (D.I a)))])) (T.need (decide (List.length (D.L b) ≤ 2 ^ 62 ∧ List.length (D.L b) * Try.prog.types[58].bytes ≤ 2 ^ 47)) (T.need (yes ((↑(0 + 1) : Int) = (1 : Int) ∧ (0 : Int) ≤ (0 : Int) ∧ (0 : Int) ≤ D.I a ∧ D.I a ≤ (500 : Int) ∧ (↑(List.length (D.L b)) : Int) = (↑(List.length (D.L b)) : Int) ∧ (↑(List.length (D.L b)) : Int) + (D.I a - (0 : Int)) ≤ (5500 : Int))) (T.leaf [D.i (1 : Int), D.i (↑(Int.toNat (↑(List.length (D.L b ++ extraF (Int.toNat (0 : Int)) (Int.toNat (D.I a - (0 : Int))))) : Int)) : Int), D.l (D.L b ++ extraF (Int.toNat (0 : Int)) (Int.toNat (D.I a - (0 : Int))))]))) := by kernel_rfl
theorem t55_3_0 (a b : D) : roundT C tab55 55 (loopOf C.P 55 3) l55_3 [.i 0, a, b] =
  T.ite (decide (D.I b < D.I a)) (T.need true (T.ite false (T.leaf (Rd.again [D.i (0 : Int), D.i (D.I a), D.i (IntKind.wrap IntKind.i64 (D.I b + (1 : Int)))])) (T.need true (T.leaf (Rd.again [D.i (1 : Int), D.i (D.I a), D.i (1 : Int), D.i (IntKind.wrap IntKind.i64 (D.I b + (1 : Int))), D.l [[D.i (0 : Int), D.i (D.I b), D.i (0 : Int)]]]))))) (T.leaf (Rd.out (Ex.exit 0) [D.i (0 : Int)])) := by kernel_rfl
theorem t55_3_1 (a b c d : D) : roundT C tab55 55 (loopOf C.P 55 3) l55_3 [.i 1, a, b, c, d] =
  T.ite (decide (D.I c < D.I a)) (T.need true (T.ite false (T.leaf (Rd.again [D.i (1 : Int), D.i (D.I a), D.i (↑(Int.toNat (D.I b)) : Int), D.i (IntKind.wrap IntKind.i64 (D.I c + (1 : Int))), D.l (D.L d)])) (T.need (decide (Int.toNat (D.I b) ≤ List.length (D.L d) ∧ Int.toNat (D.I b) + List.length (List.take (List.length [[D.i (0 : Int), D.i (D.I c), D.i (0 : Int)]]) [[D.i (0 : Int), D.i (D.I c), D.i (0 : Int)]]) ≤ 2 ^ 62 ∧ (Int.toNat (D.I b) + List.length (List.take (List.length [[D.i (0 : Int), D.i (D.I c), D.i (0 : Int)]]) [[D.i (0 : Int), D.i (D.I c), D.i (0 : Int)]])) * Try.prog.types[58].bytes ≤ 2 ^ 47)) (T.leaf (Rd.again [D.i (1 : Int), D.i (D.I a), D.i (↑(Int.toNat (D.I b) + List.length (List.take (List.length [[D.i (0 : Int), D.i (D.I c), D.i (0 : Int)]]) [[D.i (0 : Int), D.i (D.I c), D.i (0 : Int)]])) : Int), D.i (IntKind.wrap IntKind.i64 (D.I c + (1 : Int))), D.l (List.take (Int.toNat (D.I b)) (D.L d) ++ List.take (List.length [[D.i (0 : Int), D.i (D.I c), D.i (0 : Int)]]) [[D.i (0 : Int), D.i (D.I c), D.i (0 : Int)]])]))))) (T.leaf (Rd.out (Ex.exit 0) [D.i (1 : Int), D.i (↑(Int.toNat (D.I b)) : Int), D.l (D.L d)])) := by kernel_rfl
theorem t53 (a b : D) : fnTW C tab53 53 s53 [a, b] =
  T.need (yes ((↑(Int.toNat (D.I a)) : Int) = (↑(List.length (D.L b)) : Int) ∧ List.length (D.L b) ≤ 1000000 ∧ (0 : Int) ≤ (0 : Int) ∧ (0 : Int) ≤ (↑(List.length (D.L b)) : Int) ∧ IntKind.wrap IntKind.i64 ((↑(Int.toNat (D.I a)) : Int) - (1 : Int)) = (↑(List.length (D.L b)) : Int) - (1 : Int) - (0 : Int))) (T.leaf [D.l (revR (Int.toNat (0 : Int)) (List.length (D.L b) - Int.toNat (0 : Int)) (D.L b))]) := by kernel_rfl
theorem t53_1 (a b c d : D) : roundTK C tab53 53 (loopOf C.P 53 1) 1 l53_1 [a, b, c, d] =
  T.ite (decide (D.I b < D.I c)) (T.need (decide ((0 : Int) ≤ D.I c ∧ D.I c < (↑(Int.toNat (D.I a)) : Int))) (T.need (decide (Int.toNat (D.I c) < List.length (D.L d))) (T.need (decide ((0 : Int) ≤ D.I b ∧ D.I b < (↑(Int.toNat (D.I a)) : Int))) (T.need (decide (Int.toNat (D.I b) < List.length (D.L d))) (T.need (decide ((0 : Int) ≤ D.I b ∧ D.I b < (↑(Int.toNat (D.I a)) : Int))) (T.need (decide (Int.toNat (D.I b) < List.length (D.L d))) (T.need (decide ((0 : Int) ≤ D.I c ∧ D.I c < (↑(Int.toNat (D.I a)) : Int))) (T.need (decide (Int.toNat (D.I c) < List.length (List.set (D.L d) (Int.toNat (D.I b)) (updC (List.getD (D.L d) (Int.toNat (D.I b)) []) [D.i (D.I (List.getD (List.getD (D.L d) (Int.toNat (D.I c)) []) 0 default))] 0 0 (List.length [K.int IntKind.i64]))))) (T.leaf (Rd.again [D.i (↑(Int.toNat (D.I a)) : Int), D.i (IntKind.wrap IntKind.i64 (D.I b + (1 : Int))), D.i (IntKind.wrap IntKind.i64 (D.I c - (1 : Int))), D.l (List.set (List.set (D.L d) (Int.toNat (D.I b)) (updC (List.getD (D.L d) (Int.toNat (D.I b)) []) [D.i (D.I (List.getD (List.getD (D.L d) (Int.toNat (D.I c)) []) 0 default))] 0 0 (List.length [K.int IntKind.i64]))) (Int.toNat (D.I c)) (updC (List.getD (List.set (D.L d) (Int.toNat (D.I b)) (updC (List.getD (D.L d) (Int.toNat (D.I b)) []) [D.i (D.I (List.getD (List.getD (D.L d) (Int.toNat (D.I c)) []) 0 default))] 0 0 (List.length [K.int IntKind.i64]))) (Int.toNat (D.I c)) []) [D.i (D.I (List.getD (List.getD (D.L d) (Int.toNat (D.I b)) []) 0 default))] 0 0 (List.length [K.int IntKind.i64])))])))))))))) (T.leaf (Rd.out (Ex.exit 0) [D.l (D.L d)])) := by kernel_rfl
theorem t68 (a b c d : D) : fnTW C tab68 68 s68 [a, b, c, d] =
  T.need (decide ((0 : Int) ≤ D.I a ∧ D.I a = D.I a ∧ D.I a ≤ (2 : Int) ^ 40 ∧ (↑Try.prog.types[3].bytes : Int) * D.I a ≤ (2 : Int) ^ 46)) (T.need (yes ((1 : Int) ≤ D.I a ∧ D.I a ≤ (500 : Int) ∧ (↑(Int.toNat (D.I c)) : Int) = D.I a ∧ (↑(List.length (List.replicate (Int.toNat (D.I a)) [D.i (0 : Int)])) : Int) = D.I a ∧ (↑(List.length (List.replicate (Int.toNat (D.I a)) [D.i (0 : Int)])) : Int) = D.I a ∧ (0 : Int) ≤ (0 : Int) ∧ (0 : Int) ≤ D.I a ∧ List.replicate (Int.toNat (D.I a)) [D.i (0 : Int)] = List.replicate (Int.toNat (0 : Int)) [D.i (-1 : Int)] ++ List.replicate (Int.toNat (D.I a - (0 : Int))) [D.i (0 : Int)])) (T.need (yes (goodL (D.I a) (D.L b) ∧ (↑(Int.toNat (D.I a)) : Int) = D.I a ∧ (↑(Int.toNat (D.I a)) : Int) = D.I a ∧ IntKind.wrap IntKind.i64 (D.I a + (1 : Int)) = D.I a + (1 : Int) ∧ (0 : Int) ≤ (0 : Int) ∧ (0 : Int) ≤ D.I a + (1 : Int) ∧ (↑(List.length (D.L d)) : Int) = D.I a ∧ (↑(List.length (List.replicate (Int.toNat (D.I a)) [D.i (-1 : Int)])) : Int) = D.I a ∧ room (D.L d) ((↑(List.length (D.L b)) : Int) * (D.I a + (1 : Int) - (0 : Int))))) (T.leaf [D.i (↑(Int.toNat (D.I a)) : Int), D.i (roundsR (D.L b) (Int.toNat (D.I a + (1 : Int) - (0 : Int))) (D.L d, List.replicate (Int.toNat (D.I a)) [D.i (-1 : Int)], (-1 : Int))).snd.snd, D.l (roundsR (D.L b) (Int.toNat (D.I a + (1 : Int) - (0 : Int))) (D.L d, List.replicate (Int.toNat (D.I a)) [D.i (-1 : Int)], (-1 : Int))).fst, D.l (roundsR (D.L b) (Int.toNat (D.I a + (1 : Int) - (0 : Int))) (D.L d, List.replicate (Int.toNat (D.I a)) [D.i (-1 : Int)], (-1 : Int))).snd.fst]))) := by kernel_rfl
theorem t68_3 (a b c d e f g h : D) : roundTK C tab68 68 (loopOf C.P 68 3) 1 l68_3 [a, b, c, d, e, f, g, h] =
  T.ite (decide (D.I f < D.I e)) (T.need (decide ((0 : Int) ≤ D.I f ∧ D.I f < (↑(Int.toNat (D.I d)) : Int))) (T.need (decide (Int.toNat (D.I f) < List.length (D.L h))) (T.leaf (Rd.again [D.i (D.I a), D.l (D.L b), D.i (↑(Int.toNat (D.I c)) : Int), D.i (↑(Int.toNat (D.I d)) : Int), D.i (D.I e), D.i (IntKind.wrap IntKind.i64 (D.I f + (1 : Int))), D.l (D.L g), D.l (List.set (D.L h) (Int.toNat (D.I f)) (updC (List.getD (D.L h) (Int.toNat (D.I f)) []) [D.i (-1 : Int)] 0 0 (List.length [K.int IntKind.i64])))])))) (T.leaf (Rd.out (Ex.exit 0) [D.i (D.I a), D.l (D.L b), D.i (↑(Int.toNat (D.I c)) : Int), D.i (↑(Int.toNat (D.I d)) : Int), D.l (D.L g), D.l (D.L h)])) := by kernel_rfl
theorem t68_9 (a b c d e f g h i : D) : roundTK C tab68 68 (loopOf C.P 68 9) 1 l68_9 [a, b, c, d, e, f, g, h, i] =
  T.ite (decide (D.I g < D.I f)) (T.need (yes (goodL (D.I a) (D.L b) ∧ (↑(Int.toNat (D.I c)) : Int) = D.I a ∧ (↑(Int.toNat (D.I d)) : Int) = D.I a ∧ D.L b = D.L b ∧ (↑(List.length (D.L b)) : Int) = (↑(List.length (D.L b)) : Int) ∧ (0 : Int) ≤ (0 : Int) ∧ (0 : Int) ≤ (↑(List.length (D.L b)) : Int) ∧ (↑(List.length (D.L h)) : Int) = D.I a ∧ (↑(List.length (D.L i)) : Int) = D.I a ∧ room (D.L h) ((↑(List.length (D.L b)) : Int) - (0 : Int)))) (T.ite (decide ((passR (D.L b) (Int.toNat (0 : Int)) (List.length (D.L b) - Int.toNat (0 : Int)) (D.L h, D.L i, (-1 : Int))).snd.snd < (0 : Int))) (T.leaf (Rd.out (Ex.exit 2) [D.i (↑(Int.toNat (D.I a)) : Int), D.i (passR (D.L b) (Int.toNat (0 : Int)) (List.length (D.L b) - Int.toNat (0 : Int)) (D.L h, D.L i, (-1 : Int))).snd.snd, D.l (passR (D.L b) (Int.toNat (0 : Int)) (List.length (D.L b) - Int.toNat (0 : Int)) (D.L h, D.L i, (-1 : Int))).fst, D.l (passR (D.L b) (Int.toNat (0 : Int)) (List.length (D.L b) - Int.toNat (0 : Int)) (D.L h, D.L i, (-1 : Int))).snd.fst])) (T.leaf (Rd.again [D.i (D.I a), D.l (D.L b), D.i (↑(Int.toNat (D.I a)) : Int), D.i (↑(Int.toNat (D.I a)) : Int), D.i (passR (D.L b) (Int.toNat (0 : Int)) (List.length (D.L b) - Int.toNat (0 : Int)) (D.L h, D.L i, (-1 : Int))).snd.snd, D.i (D.I f), D.i (IntKind.wrap IntKind.i64 (D.I g + (1 : Int))), D.l (passR (D.L b) (Int.toNat (0 : Int)) (List.length (D.L b) - Int.toNat (0 : Int)) (D.L h, D.L i, (-1 : Int))).fst, D.l (passR (D.L b) (Int.toNat (0 : Int)) (List.length (D.L b) - Int.toNat (0 : Int)) (D.L h, D.L i, (-1 : Int))).snd.fst])))) (T.leaf (Rd.out (Ex.exit 2) [D.i (↑(Int.toNat (D.I d)) : Int), D.i (D.I e), D.l (D.L h), D.l (D.L i)])) := by kernel_rfl
theorem t68_12 (a b c d e f g h i j k l : D) : roundTK C tab68 68 (loopOf C.P 68 12) 1 l68_12 [a, b, c, d, e, f, g, h, i, j, k, l] =
  T.ite (decide (D.I j < D.I i)) (T.need (decide ((0 : Int) ≤ D.I j ∧ D.I j < (↑(List.length (D.L h)) : Int))) (T.need (decide ((0 : Int) ≤ D.I (List.getD (List.getD (D.L h) (Int.toNat (D.I j)) []) 0 default) ∧ D.I (List.getD (List.getD (D.L h) (Int.toNat (D.I j)) []) 0 default) < (↑(Int.toNat (D.I c)) : Int))) (T.need (decide (Int.toNat (D.I (List.getD (List.getD (D.L h) (Int.toNat (D.I j)) []) 0 default)) < List.length (D.L k))) (T.need (decide ((0 : Int) ≤ D.I (List.getD (List.getD (D.L h) (Int.toNat (D.I j)) []) (0 + 1) default) ∧ D.I (List.getD (List.getD (D.L h) (Int.toNat (D.I j)) []) (0 + 1) default) < (↑(Int.toNat (D.I c)) : Int))) (T.need (decide (Int.toNat (D.I (List.getD (List.getD (D.L h) (Int.toNat (D.I j)) []) (0 + 1) default)) < List.length (D.L k))) (T.ite (decide (IntKind.wrap IntKind.i64 (D.I (List.getD (List.getD (D.L k) (Int.toNat (D.I (List.getD (List.getD (D.L h) (Int.toNat (D.I j)) []) 0 default))) []) 0 default) + D.I (List.getD (List.getD (D.L h) (Int.toNat (D.I j)) []) (0 + 1 + 1) default)) > D.I (List.getD (List.getD (D.L k) (Int.toNat (D.I (List.getD (List.getD (D.L h) (Int.toNat (D.I j)) []) (0 + 1) default))) []) 0 default))) (T.need (decide ((0 : Int) ≤ D.I (List.getD (List.getD (D.L h) (Int.toNat (D.I j)) []) (0 + 1) default) ∧ D.I (List.getD (List.getD (D.L h) (Int.toNat (D.I j)) []) (0 + 1) default) < (↑(Int.toNat (D.I c)) : Int))) (T.need (decide (Int.toNat (D.I (List.getD (List.getD (D.L h) (Int.toNat (D.I j)) []) (0 + 1) default)) < List.length (D.L k))) (T.need (decide ((0 : Int) ≤ D.I (List.getD (List.getD (D.L h) (Int.toNat (D.I j)) []) (0 + 1) default) ∧ D.I (List.getD (List.getD (D.L h) (Int.toNat (D.I j)) []) (0 + 1) default) < (↑(Int.toNat (D.I d)) : Int))) (T.need (decide (Int.toNat (D.I (List.getD (List.getD (D.L h) (Int.toNat (D.I j)) []) (0 + 1) default)) < List.length (D.L l))) (T.leaf (Rd.again [D.i (D.I a), D.l (D.L b), D.i (↑(Int.toNat (D.I c)) : Int), D.i (↑(Int.toNat (D.I d)) : Int), D.i (D.I (List.getD (List.getD (D.L h) (Int.toNat (D.I j)) []) (0 + 1) default)), D.i (D.I f), D.i (D.I g), D.l (D.L h), D.i (D.I i), D.i (IntKind.wrap IntKind.i64 (D.I j + (1 : Int))), D.l (List.set (D.L k) (Int.toNat (D.I (List.getD (List.getD (D.L h) (Int.toNat (D.I j)) []) (0 + 1) default))) (updC (List.getD (D.L k) (Int.toNat (D.I (List.getD (List.getD (D.L h) (Int.toNat (D.I j)) []) (0 + 1) default))) []) [D.i (IntKind.wrap IntKind.i64 (D.I (List.getD (List.getD (D.L k) (Int.toNat (D.I (List.getD (List.getD (D.L h) (Int.toNat (D.I j)) []) 0 default))) []) 0 default) + D.I (List.getD (List.getD (D.L h) (Int.toNat (D.I j)) []) (0 + 1 + 1) default)))] 0 0 (List.length [K.int IntKind.i64]))), D.l (List.set (D.L l) (Int.toNat (D.I (List.getD (List.getD (D.L h) (Int.toNat (D.I j)) []) (0 + 1) default))) (updC (List.getD (D.L l) (Int.toNat (D.I (List.getD (List.getD (D.L h) (Int.toNat (D.I j)) []) (0 + 1) default))) []) [D.i (D.I j)] 0 0 (List.length [K.int IntKind.i64])))])))))) (T.leaf (Rd.again [D.i (D.I a), D.l (D.L b), D.i (↑(Int.toNat (D.I c)) : Int), D.i (↑(Int.toNat (D.I d)) : Int), D.i (D.I e), D.i (D.I f), D.i (D.I g), D.l (D.L h), D.i (D.I i), D.i (IntKind.wrap IntKind.i64 (D.I j + (1 : Int))), D.l (D.L k), D.l (D.L l)])))))))) (T.leaf (Rd.out (Ex.exit 4) [D.i (D.I a), D.l (D.L b), D.i (↑(Int.toNat (D.I c)) : Int), D.i (↑(Int.toNat (D.I d)) : Int), D.i (D.I e), D.i (D.I f), D.i (D.I g), D.l (D.L k), D.l (D.L l)])) := by kernel_rfl
end Go.Proofs.Ytipbcpobnciccaa

namespace Go.Proofs.Ytipbcpobnciccaa
open Go.Lite
set_option linter.unusedVariables false
set_option maxRecDepth 100000
theorem t75 (a : D) : fnT C tab75 75 s75 [a] =
  T.need (!List.isEmpty (D.L a)) (T.ite (List.isEmpty (D.L a)) (T.leaf [D.i (1 : Int)]) (T.need (decide (List.length (D.L a) ≤ 2 ^ 62 ∧ List.length (D.L a) * Try.prog.types[58].bytes ≤ 2 ^ 47)) (T.leaf [D.i (0 : Int), D.i (↑(List.length (D.L a)) : Int), D.l (D.L a)]))) := by kernel_rfl
end Go.Proofs.Ytipbcpobnciccaa

namespace Go.Proofs.Ytipbcpobnciccaa
open Go.Lite
set_option maxRecDepth 100000
/-! ### Rows -/
theorem len_rs (R : List (List D)) (j : Nat) (v : Int) : (rs R j v).length = R.length := by simp [rs]
theorem rg_rs {R : List (List D)} {j : Nat} (hj : j < R.length) (v : Int) (i : Nat) : rg (rs R j v) i = if i = j then v else rg R i := by
  unfold rg rs
  simp only [List.getD_eq_getElem?_getD, List.getElem?_set]
  by_cases e : i = j
  · subst e; simp [hj, ix, D.I]
  · rw [if_neg (fun h => e h.symm), if_neg e]
theorem rg_ge {R : List (List D)} {j : Nat} (hj : R.length ≤ j) : rg R j = 0 := by
  unfold rg
  rw [List.getD_eq_getElem?_getD, List.getElem?_eq_none hj]
  rfl
theorem rg_def (R : List (List D)) (j : Nat) : ((R.getD j []).getD 0 default).I = rg R j := rfl
theorem rs_def (R : List (List D)) (j : Nat) (v : Int) : R.set j [.i v] = rs R j v := rfl
theorem rg_rep {n j : Nat} {v : Int} (hj : j < n) : rg (List.replicate n [.i v]) j = v := by
  unfold rg
  rw [List.getD_eq_getElem?_getD, List.getElem?_replicate, if_pos hj]
  rfl
theorem len_extraF : ∀ (i k : Nat), (extraF i k).length = k
  | _, 0 => rfl
  | i, k + 1 => by simp [extraF, len_extraF (i + 1) k]
theorem extraF_get : ∀ {i k j : Nat}, j < k → (extraF i k).getD j [] = [.i 0, .i ((i + j : Nat) : Int), .i 0]
  | i, k + 1, 0, _ => by simp [extraF]
  | i, k + 1, j + 1, h => by
    have := extraF_get (i := i + 1) (k := k) (j := j) (by omega)
    simp only [extraF, List.getD_cons_succ, this]
    rw [show i + 1 + j = i + (j + 1) by omega]
theorem extraF_snoc : ∀ (i k : Nat) (r : List (List D)), r ++ [[.i 0, .i (i : Int), .i 0]] ++ extraF (i + 1) k = r ++ extraF i (k + 1) := fun i k r => by simp [extraF]

/-! ### Raising -/
theorem len_stepR (l : List (List D)) (i : Nat) (s : RSt) : (stepR l i s).1.length = s.1.length ∧ (stepR l i s).2.1.length = s.2.1.length := by
  unfold stepR
  split
  · exact ⟨len_rs .., len_rs ..⟩
  · exact ⟨rfl, rfl⟩
theorem len_passR (l : List (List D)) : ∀ (k i : Nat) (s : RSt), (passR l i k s).1.length = s.1.length ∧ (passR l i k s).2.1.length = s.2.1.length
  | 0, _, _ => ⟨rfl, rfl⟩
  | k + 1, i, s => by
    have h1 := len_passR l k (i + 1) (stepR l i s)
    have h2 := len_stepR l i s
    exact ⟨h1.1.trans h2.1, h1.2.trans h2.2⟩
theorem len_roundsR (l : List (List D)) : ∀ (k : Nat) (s : RSt), (roundsR l k s).1.length = s.1.length ∧ (roundsR l k s).2.1.length = s.2.1.length
  | 0, _ => ⟨rfl, rfl⟩
  | k + 1, s => by
    have h1 := len_passR l l.length 0 (s.1, s.2.1, -1)
    simp only [roundsR]
    split
    · exact h1
    · have h2 := len_roundsR l k (passR l 0 l.length (s.1, s.2.1, -1))
      exact ⟨h2.1.trans h1.1, h2.2.trans h1.2⟩
theorem room_step {n : Int} {l : List (List D)} (hl : goodL n l) {i : Nat} (hi : i < l.length) {s : RSt} (hs : (s.1.length : Int) = n) {k : Int} (h : room s.1 (k + 1)) : room (stepR l i s).1 k := by
  obtain ⟨M, h1, h2⟩ := h
  obtain ⟨h3, h4, h5⟩ := hl.2.2.2 i hi
  have h0 := h1 0
  refine ⟨M + 1000000, fun j => ?_, by omega⟩
  have hj := h1 j
  unfold stepR
  split
  · simp only
    rw [rg_rs (by omega)]
    split
    · have := h1 (lkF l i).toNat; omega
    · omega
  · omega
theorem room_pass {n : Int} {l : List (List D)} (hl : goodL n l) : ∀ (k i : Nat), i + k ≤ l.length → ∀ {s : RSt}, (s.1.length : Int) = n → ∀ {q : Int}, room s.1 (q + k) → room (passR l i k s).1 q
  | 0, _, _, s, _, q, h => by
    have e : q + ((0 : Nat) : Int) = q := by omega
    rw [e] at h; exact h
  | k + 1, i, hk, s, hs, q, h => by
    refine room_pass hl k (i + 1) (by omega) (by rw [(len_stepR l i s).1]; exact hs) (room_step hl (by omega) hs ?_)
    have e : q + ((k + 1 : Nat) : Int) = q + k + 1 := by omega
    rw [e] at h; exact h
theorem room_rg {t : List (List D)} {k : Int} (h : room t k) (hk : 0 ≤ k) (j : Nat) : -4611686018427387904 ≤ rg t j ∧ rg t j ≤ 4611686018427387904 := by
  obtain ⟨M, h1, h2⟩ := h
  have := h1 j
  omega
theorem ok75 (n : Nat) : FnOK C (n + 1) 75 (mkF s75 Gcl) := by
  refine clone_ok (ks := [.int .i64, .int .i64, .int .i64]) (by kernel_rfl) (fun kd c0 => by cases kd <;> cases c0 <;> kernel_rfl) ?_
  refine fn_ofS hC (sp := sp75) (lp := lp75) (sw := sw75) trivial trivial (by kernel_rfl) [] (by kernel_rfl) rfl (fun k hk => by cases hk) fun ds rr h => ?_
  unfold Gcl1 at h
  split at h
  · rename_i l
    obtain ⟨hp, h⟩ := need_some h
    rw [yes_iff] at hp
    obtain ⟨h1, h2⟩ := hp
    refine (congrArg T.run (t75 l)).trans ?_
    have hne : l.L.isEmpty = false := by cases hl : l.L with
      | nil => exact absurd hl h1
      | cons c cs => rfl
    rw [bytes58]
    refine go_need (by rw [hne]; rfl) (go_false hne (go_dec (by omega) h))
  · cases h
theorem ok49_3 (n : Nat) : LoopSim C (n + 1) 49 (loopOf C.P 49 3) (mkL l49_3 G49_3) := by
  refine loop_ofK hC (sp := sp49) (lp := lp49) (sw := sw49) ⟨ok75 n, trivial⟩ trivial 0 [] (by kernel_rfl) rfl (fun k hk => by cases hk) (by kernel_rfl) (fun ds => ((ds.getD 1 default).I - (ds.getD 2 default).I).toNat) fun ds rr h => ?_
  unfold G49_3 at h
  split at h
  · rename_i j k i n m r
    obtain ⟨hp, h⟩ := need_some h
    rw [yes_iff] at hp
    obtain ⟨hj, h1, h2, h3, h4, h5⟩ := hp
    have hb := big_eq
    refine ⟨by rw [fuelC]; simp; omega, ?_⟩
    rw [roundTK_head (j := j) (n := 0) hj (by decide), show roundTK C (mkTab sp49 lp49 sw49) 49 (loopOf C.P 49 3) 0 l49_3 [.i 0, k, i, n, m, r] = _ from t49_3_0 k i n m r]
    obtain ⟨q, hq⟩ : ∃ q : Nat, i.I = q := ⟨i.I.toNat, by omega⟩
    have e1 : [[D.i 0, D.i (q : Int), D.i 0]].take 1 = [[D.i 0, D.i (q : Int), D.i 0]] := rfl
    simp only [hq, h4, Int.toNat_natCast, e1, List.length_cons, List.length_nil, Nat.zero_add, List.take_length, bytes58] at h h2 h5 ⊢
    refine rd_if (fun hlt => ?_) fun hge => rd_out ?_
    · refine rd_need rfl (rd_false rfl (rd_dec (by omega) ?_))
      rw [wrap_succ (by omega)]
      have e2 : (k.I - (q : Int)).toNat = (k.I - ((q + 1 : Nat) : Int)).toNat + 1 := by omega
      refine rd_again ((need_yes ⟨rfl, by simp only [I_i]; omega, by simp only [I_i]; omega, h3, by simp only [I_i, L_l, List.length_append, List.length_cons, List.length_nil], by simp only [I_i, L_l, List.length_append, List.length_cons, List.length_nil]; omega⟩).trans ?_) (show (k.I - ((q + 1 : Nat) : Int)).toNat < (k.I - i.I).toNat by omega)
      rw [← h]
      simp only [L_l, I_i, Int.toNat_natCast, e2, extraF_snoc]
    · rw [← h]
      have e3 : (k.I - (q : Int)).toNat = 0 := by omega
      simp only [e3, extraF, List.append_nil, run_leaf]
  · rename_i j k i n
    obtain ⟨hp, h⟩ := need_some h
    rw [yes_iff] at hp
    obtain ⟨hj, h1, h2, h3⟩ := hp
    have hb := big_eq
    refine ⟨by rw [fuelC]; simp; omega, ?_⟩
    rw [roundTK_head (j := j) (n := 1) hj (by decide), show roundTK C (mkTab sp49 lp49 sw49) 49 (loopOf C.P 49 3) 0 l49_3 [.i 1, k, i, n] = _ from t49_3_1 k i n]
    simp only [h1] at h ⊢
    refine rd_pos (by omega) (rd_need rfl (rd_false rfl (rd_need rfl ?_)))
    have e2 : k.I.toNat = (k.I - 1).toNat + 1 := by omega
    refine rd_again ((need_yes ⟨rfl, by decide, by simp only [I_i]; exact h2, h3, rfl, by simp only [L_l, List.length_cons, List.length_nil]; show ((1 : Nat) : Int) + (k.I - 1) ≤ 5500; omega⟩).trans ?_) (show (k.I - 1).toNat < (k.I - i.I).toNat by omega)
    rw [← h]
    simp only [L_l, I_i, e2, extraF]
    rfl
  · cases h
theorem ok49 (n : Nat) : FnOK C (n + 2) 49 (mkF s49 G49) := by
  refine fn_ofS hC (sp := sp49) (lp := lp49) (sw := sw49) ⟨ok75 n, trivial⟩ trivial (by kernel_rfl) [3] (by kernel_rfl) (by kernel_rfl) (fun k hk L hL => by simp at hk; subst hk; cases hL; exact ok49_3 n) fun ds rr h => ?_
  unfold G49 at h
  split at h
  · rename_i n l
    obtain ⟨hp, h⟩ := need_some h
    rw [yes_iff] at hp
    have h1 := hp
    refine (congrArg T.run (t49 n l)).trans ?_
    rw [← h]
    have hp : netP n.I l.L := h1
    simp only [netP, netOk, Bool.and_eq_true, Lite.within_iff, decide_eq_true_eq] at h1
    obtain ⟨⟨h2, h3⟩, -⟩ := h1
    simp only [Int.toNat_zero, Int.sub_zero, Int.toNat_natCast]
    refine go_yes (by omega) (go_ite (fun c => go_yes ⟨by trivial, by trivial, by omega, by omega⟩ ?_) fun c => go_yes ⟨by trivial, by omega, by omega, by omega, by trivial, by omega⟩ ?_)
    · have e : l.L = [] := by simpa using c
      unfold allL
      rw [e]
      rfl
    · rfl
  · cases h
theorem ok55_3 (n : Nat) : LoopSim C (n + 0) 55 (loopOf C.P 55 3) (mkL l55_3 G55_3) := by
  refine loop_ofK hC (sp := sp55) (lp := lp55) (sw := sw55) trivial trivial 0 [] (by kernel_rfl) rfl (fun k hk => by cases hk) (by kernel_rfl) (fun ds => ((ds.getD 1 default).I).toNat + 1 - (if (ds.getD 0 default).I = 0 then (ds.getD 2 default).I.toNat else (ds.getD 3 default).I.toNat)) fun ds rr h => ?_
  unfold G55_3 at h
  split at h
  · rename_i j n m i r
    obtain ⟨hp, h⟩ := need_some h
    rw [yes_iff] at hp
    obtain ⟨hj, h1, h2, h3, h4, h5⟩ := hp
    have hb := big_eq
    refine ⟨by rw [fuelC]; simp; omega, ?_⟩
    rw [roundTK_head (j := j) (n := 1) hj (by decide), show roundTK C (mkTab sp55 lp55 sw55) 55 (loopOf C.P 55 3) 0 l55_3 [.i 1, n, m, i, r] = _ from t55_3_1 n m i r]
    obtain ⟨q, hq⟩ : ∃ q : Nat, i.I = q := ⟨i.I.toNat, by omega⟩
    have e1 : [[D.i 0, D.i (q : Int), D.i 0]].take 1 = [[D.i 0, D.i (q : Int), D.i 0]] := rfl
    simp only [hq, h4, Int.toNat_natCast, e1, List.length_cons, List.length_nil, Nat.zero_add, List.take_length, bytes58] at h h2 h5 ⊢
    refine rd_if (fun hlt => ?_) fun hge => rd_out ?_
    · refine rd_need rfl (rd_false rfl (rd_dec (by omega) ?_))
      rw [wrap_succ (by omega)]
      have e2 : (n.I - (q : Int)).toNat = (n.I - ((q + 1 : Nat) : Int)).toNat + 1 := by omega
      refine rd_again ((need_yes ⟨rfl, by simp only [I_i]; omega, by simp only [I_i]; omega, h3, by simp only [I_i, L_l, List.length_append, List.length_cons, List.length_nil], by simp only [I_i, L_l, List.length_append, List.length_cons, List.length_nil]; omega⟩).trans ?_) ?_
      · rw [← h]
        simp only [L_l, I_i, Int.toNat_natCast, e2, extraF_snoc]
      · show n.I.toNat + 1 - (if (1 : Int) = 0 then _ else ((q + 1 : Nat) : Int).toNat) < n.I.toNat + 1 - (if j.I = 0 then _ else i.I.toNat)
        rw [if_neg (by decide), if_neg (by omega)]
        omega
    · rw [← h]
      have e3 : (n.I - (q : Int)).toNat = 0 := by omega
      simp only [e3, extraF, List.append_nil, run_leaf]
  · rename_i j n i
    obtain ⟨hp, h⟩ := need_some h
    rw [yes_iff] at hp
    obtain ⟨hj, h1, h2, h3⟩ := hp
    have hb := big_eq
    refine ⟨by rw [fuelC]; simp; omega, ?_⟩
    rw [roundTK_head (j := j) (n := 0) hj (by decide), show roundTK C (mkTab sp55 lp55 sw55) 55 (loopOf C.P 55 3) 0 l55_3 [.i 0, n, i] = _ from t55_3_0 n i]
    simp only [h1] at h ⊢
    refine rd_pos (by omega) (rd_need rfl (rd_false rfl (rd_need rfl ?_)))
    have e2 : n.I.toNat = (n.I - 1).toNat + 1 := by omega
    refine rd_again ((need_yes ⟨rfl, by decide, by simp only [I_i]; exact h2, h3, rfl, by simp only [L_l, List.length_cons, List.length_nil]; show ((1 : Nat) : Int) + (n.I - 1) ≤ 5500; omega⟩).trans ?_) ?_
    · rw [← h]
      simp only [L_l, I_i, e2, extraF]
      rfl
    · show n.I.toNat + 1 - (if (1 : Int) = 0 then _ else (1 : Int).toNat) < n.I.toNat + 1 - (if j.I = 0 then i.I.toNat else _)
      rw [if_neg (by decide), if_pos hj, h1]
      show n.I.toNat + 1 - 1 < n.I.toNat + 1 - 0
      omega
  · cases h
theorem ok55 (n : Nat) : FnOK C (n + 1) 55 (mkF s55 G55) := by
  refine fn_ofS hC (sp := sp55) (lp := lp55) (sw := sw55) trivial trivial (by kernel_rfl) [3] (by kernel_rfl) (by kernel_rfl) (fun k hk L hL => by simp at hk; subst hk; cases hL; exact ok55_3 n) fun ds rr h => ?_
  unfold G55 at h
  split at h
  · rename_i n l
    obtain ⟨hp, h⟩ := need_some h
    rw [yes_iff] at hp
    have h1 := hp
    refine (congrArg T.run (t55 n l)).trans ?_
    rw [← h]
    have hp : netP n.I l.L := h1
    simp only [netP, netOk, Bool.and_eq_true, Lite.within_iff, decide_eq_true_eq] at h1
    obtain ⟨⟨h2, h3⟩, -⟩ := h1
    simp only [Int.toNat_zero, Int.sub_zero, Int.toNat_natCast, bytes58]
    refine go_ite (fun c => go_yes ⟨by trivial, by trivial, by omega, by omega⟩ ?_) fun c => go_dec (by omega) (go_yes ⟨by trivial, by omega, by omega, by omega, by trivial, by omega⟩ ?_)
    · have e : l.L = [] := by simpa using c
      unfold allL
      rw [e]
      rfl
    · rfl
  · cases h
theorem ok53_1 (n : Nat) : LoopSimK C (n + 0) 1 53 (loopOf C.P 53 1) (mkLK 1 l53_1 G53_1) := by
  refine loop_ofK hC (sp := sp53) (lp := lp53) (sw := sw53) trivial trivial 1 [] (by kernel_rfl) rfl (fun k hk => by cases hk) (by kernel_rfl) (fun ds => ((ds.getD 3 default).L.length : Int).toNat - (ds.getD 1 default).I.toNat) fun ds rr h => ?_
  unfold G53_1 at h
  split at h
  · rename_i m i j r
    obtain ⟨hp, h⟩ := need_some h
    rw [yes_iff] at hp
    obtain ⟨h1, h2, h3, h4, h5⟩ := hp
    have hb := big_eq
    refine ⟨by rw [fuelC]; simp; omega, ?_⟩
    rw [show roundTK C (mkTab sp53 lp53 sw53) 53 (loopOf C.P 53 1) 1 l53_1 [m, i, j, r] = _ from t53_1 m i j r]
    obtain ⟨q, hq⟩ : ∃ q : Nat, i.I = q := ⟨i.I.toNat, by omega⟩
    simp only [hq, h1, h5, Int.toNat_natCast, upd1, rg_def, rs_def] at h h3 h4 ⊢
    refine rd_if (fun hlt => ?_) fun hge => rd_out ?_
    · have e1 : ((r.L.length : Int) - 1 - (q : Int)).toNat = r.L.length - 1 - q := by omega
      simp only [e1, len_rs]
      refine rd_dec ⟨by omega, by omega⟩ (rd_dec (by omega) (rd_dec ⟨by omega, by omega⟩ (rd_dec (by omega) (rd_dec ⟨by omega, by omega⟩ (rd_dec (by omega) (rd_dec ⟨by omega, by omega⟩ (rd_dec (by omega) ?_)))))))
      rw [wrap_succ (by omega), show IntKind.i64.wrap ((r.L.length : Int) - 1 - (q : Int) - 1) = (r.L.length : Int) - 1 - ((q + 1 : Nat) : Int) from (wrap_id (by omega) (by omega)).trans (by omega)]
      refine rd_again ((need_yes ⟨by simp only [I_i, L_l, len_rs], by simp only [L_l, len_rs]; exact h2, by simp only [I_i]; omega, by simp only [I_i, L_l, len_rs]; omega, by simp only [I_i, L_l, len_rs]⟩).trans ?_) ?_
      · rw [← h]
        simp only [L_l, I_i, len_rs, Int.toNat_natCast]
        rw [show r.L.length - q = (r.L.length - (q + 1)) + 1 by omega]
        simp only [revR]
        rw [if_pos (by omega)]
      · show ((rs (rs r.L q (rg r.L (r.L.length - 1 - q))) (r.L.length - 1 - q) (rg r.L q)).length : Int).toNat - ((q + 1 : Nat) : Int).toNat < (r.L.length : Int).toNat - i.I.toNat
        simp only [len_rs]
        omega
    · rw [← h]
      cases hk : r.L.length - q with
      | zero => rfl
      | succ k =>
        simp only [revR]
        rw [if_neg (by omega)]
        rfl
  · cases h
theorem ok53 (n : Nat) : FnOKW C (n + 1) 53 (mkFW s53 G53) := by
  refine fn_ofW hC (sp := sp53) (lp := lp53) (sw := sw53) trivial trivial (by kernel_rfl) [1] (by kernel_rfl) (by kernel_rfl) (fun k hk L hL => by simp at hk; subst hk; cases hL; exact ok53_1 n) fun ds rr h => ?_
  unfold G53 at h
  split at h
  · rename_i m r
    obtain ⟨hp, h⟩ := need_some h
    rw [yes_iff] at hp
    obtain ⟨h1, h2⟩ := hp
    refine (congrArg T.run (t53 m r)).trans ?_
    rw [← h]
    have e : IntKind.i64.wrap ((m.I.toNat : Int) - 1) = (r.L.length : Int) - 1 - 0 := (wrap_id (by omega) (by omega)).trans (by omega)
    simp only [Int.toNat_zero, Nat.sub_zero]
    exact go_yes ⟨by omega, h2, by omega, by omega, e⟩ rfl
  · cases h
theorem rep_set : ∀ (i k : Nat) (a b : List D), (List.replicate i a ++ List.replicate (k + 1) b).set i a = List.replicate (i + 1) a ++ List.replicate k b
  | 0, k, a, b => by simp [List.replicate_succ]
  | i + 1, k, a, b => by
    have := rep_set i k a b
    rw [List.replicate_succ (n := i), List.replicate_succ (n := i + 1), List.cons_append, List.set_cons_succ, this]
    rfl
theorem ok68_12 (n : Nat) : LoopSimK C (n + 0) 1 68 (loopOf C.P 68 12) (mkLK 1 l68_12 G68_12) := by
  refine loop_ofK hC (sp := sp68) (lp := lp68) (sw := sw68) trivial trivial 1 [] (by kernel_rfl) rfl (fun k hk => by cases hk) (by kernel_rfl) (fun ds => ((ds.getD 8 default).I - (ds.getD 9 default).I).toNat) fun ds rr h => ?_
  unfold G68_12 at h
  split at h
  · rename_i n l m q r k i a b c t u
    obtain ⟨hp, h⟩ := need_some h
    rw [yes_iff] at hp
    obtain ⟨⟨g1, g2, g3, g4⟩, h2, h3, h4, h5, h6, h7, h8, h9, h10⟩ := hp
    have hb := big_eq
    refine ⟨by rw [fuelC]; simp; omega, ?_⟩
    rw [show roundTK C (mkTab sp68 lp68 sw68) 68 (loopOf C.P 68 12) 1 l68_12 [n, l, m, q, r, k, i, a, b, c, t, u] = _ from t68_12 n l m q r k i a b c t u]
    obtain ⟨j, hj⟩ : ∃ j : Nat, c.I = j := ⟨c.I.toNat, by omega⟩
    have hg : goodL n.I l.L := ⟨g1, g2, g3, g4⟩
    simp only [hj, h2, h3, h4, h5, Int.toNat_natCast, upd1, Nat.zero_add, Nat.reduceAdd] at h h6 h7 h10 ⊢
    refine rd_if (fun hlt => ?_) fun hge => rd_out ?_
    · have hjl : j < l.L.length := by omega
      obtain ⟨f1, f2, f3⟩ := g4 j hjl
      have e1 : ((l.L.getD j []).getD 0 default).I = lkF l.L j := rfl
      have e2 : ((l.L.getD j []).getD 1 default).I = lkT l.L j := rfl
      have e3 : ((l.L.getD j []).getD 2 default).I = lkW l.L j := rfl
      have h0 := room_rg h10 (by omega) (lkF l.L j).toNat
      simp only [e1, e2, e3, rg_def, rs_def]
      have w : IntKind.i64.wrap (rg t.L (lkF l.L j).toNat + lkW l.L j) = rg t.L (lkF l.L j).toNat + lkW l.L j := wrap_id (by omega) (by omega)
      rw [w, wrap_succ (by omega)]
      have e4 : l.L.length - j = (l.L.length - (j + 1)) + 1 := by omega
      rw [e4] at h
      simp only [passR] at h
      have hroom : room (stepR l.L j (t.L, u.L, r.I)).1 ((l.L.length : Int) - ((j + 1 : Nat) : Int)) := room_step hg hjl (s := (t.L, u.L, r.I)) h8 (by
        have : (l.L.length : Int) - ((j + 1 : Nat) : Int) + 1 = l.L.length - j := by omega
        rw [this]; exact h10)
      have hmu : ((l.L.length : Int) - ((j + 1 : Nat) : Int)).toNat < ((b.I) - c.I).toNat := by omega
      refine rd_dec ⟨by omega, by omega⟩ (rd_dec ⟨by omega, by omega⟩ (rd_dec (by omega) (rd_dec ⟨by omega, by omega⟩ (rd_dec (by omega) (rd_if (fun hgt => ?_) fun hle => ?_)))))
      · have hst : stepR l.L j (t.L, u.L, r.I) = (rs t.L (lkT l.L j).toNat (rg t.L (lkF l.L j).toNat + lkW l.L j), rs u.L (lkT l.L j).toNat j, lkT l.L j) := if_pos hgt
        rw [hst] at h hroom
        refine rd_dec ⟨by omega, by omega⟩ (rd_dec (by omega) (rd_dec ⟨by omega, by omega⟩ (rd_dec (by omega) (rd_again ((need_yes ⟨hg, by simp only [I_i]; omega, by simp only [I_i]; omega, rfl, rfl, by simp only [I_i]; omega, by simp only [I_i, L_l]; omega, by simp only [L_l, len_rs, I_i]; exact h8, by simp only [L_l, len_rs, I_i]; exact h9, hroom⟩).trans ?_) hmu))))
        simp only [L_l, I_i, Int.toNat_natCast]
        exact h
      · have hst : stepR l.L j (t.L, u.L, r.I) = (t.L, u.L, r.I) := if_neg hle
        rw [hst] at h hroom
        refine rd_again ((need_yes ⟨hg, by simp only [I_i]; omega, by simp only [I_i]; omega, rfl, rfl, by simp only [I_i]; omega, by simp only [I_i, L_l]; omega, h8, h9, hroom⟩).trans ?_) hmu
        simp only [L_l, I_i, Int.toNat_natCast]
        exact h
    · rw [← h]
      have e5 : l.L.length - j = 0 := by omega
      have e6 : ((n.I.toNat : Nat) : Int) = n.I := by omega
      simp only [e5, passR, run_leaf, e6]
  · cases h
theorem ok68_9 (n : Nat) : LoopSimK C (n + 0) 1 68 (loopOf C.P 68 9) (mkLK 1 l68_9 G68_9) := by
  refine loop_ofK hC (sp := sp68) (lp := lp68) (sw := sw68) trivial trivial 1 [12] (by kernel_rfl) (by kernel_rfl) (fun k hk L hL => by simp at hk; subst hk; cases hL; exact ok68_12 n) (by kernel_rfl) (fun ds => ((ds.getD 5 default).I - (ds.getD 6 default).I).toNat) fun ds rr h => ?_
  unfold G68_9 at h
  split at h
  · rename_i n l m q r k i t u
    obtain ⟨hp, h⟩ := need_some h
    rw [yes_iff] at hp
    obtain ⟨⟨g1, g2, g3, g4⟩, h2, h3, h4, h5, h6, h7, h8, h9⟩ := hp
    have hb := big_eq
    refine ⟨by rw [fuelC]; simp; omega, ?_⟩
    rw [show roundTK C (mkTab sp68 lp68 sw68) 68 (loopOf C.P 68 9) 1 l68_9 [n, l, m, q, r, k, i, t, u] = _ from t68_9 n l m q r k i t u]
    obtain ⟨j, hj⟩ : ∃ j : Nat, i.I = j := ⟨i.I.toNat, by omega⟩
    have hg : goodL n.I l.L := ⟨g1, g2, g3, g4⟩
    have e6 : ((n.I.toNat : Nat) : Int) = n.I := by omega
    simp only [hj, h2, h3, h4, Int.toNat_zero, Nat.sub_zero, Int.sub_zero, e6] at h h6 h9 ⊢
    refine rd_if (fun hlt => ?_) fun hge => rd_out ?_
    · have e7 : (n.I + 1 - (j : Int)).toNat = (n.I + 1 - ((j + 1 : Nat) : Int)).toNat + 1 := by omega
      rw [e7] at h
      simp only [roundsR] at h
      have hr1 : room t.L (l.L.length * (n.I + 1 - ((j + 1 : Nat) : Int)) + (l.L.length : Int)) := by
        have : (l.L.length : Int) * (n.I + 1 - ((j + 1 : Nat) : Int)) + l.L.length = l.L.length * (n.I + 1 - j) := by
          rw [show n.I + 1 - (j : Int) = (n.I + 1 - ((j + 1 : Nat) : Int)) + 1 by omega, Int.mul_add, Int.mul_one]
        rw [this]; exact h9
      have hr0 : room t.L (l.L.length : Int) := by
        obtain ⟨M, m1, m2⟩ := hr1
        have h0 := m1 0
        have : 0 ≤ (l.L.length : Int) * (n.I + 1 - ((j + 1 : Nat) : Int)) := Int.mul_nonneg (by omega) (by omega)
        exact ⟨M, m1, by rw [Int.mul_add] at m2; omega⟩
      have hr2 := room_pass hg l.L.length 0 (by omega) (s := (t.L, u.L, -1)) h7 hr1
      have hl2 := len_passR l.L l.L.length 0 (t.L, u.L, -1)
      refine rd_yes ⟨hg, by trivial, by trivial, by trivial, by trivial, by omega, by omega, h7, h8, hr0⟩ (rd_if (fun hc => rd_out ?_) fun hc => ?_)
      · rw [if_pos hc] at h
        exact h
      · rw [if_neg hc] at h
        rw [wrap_succ (by omega)]
        refine rd_again ((need_yes ⟨hg, by simp only [I_i], by simp only [I_i], by simp only [I_i], by simp only [I_i]; omega, by simp only [I_i]; omega, by simp only [L_l, I_i, hl2.1]; exact h7, by simp only [L_l, I_i, hl2.2]; exact h8, by simp only [L_l, I_i]; exact hr2⟩).trans ?_) (show (n.I + 1 - ((j + 1 : Nat) : Int)).toNat < (k.I - i.I).toNat by omega)
        simp only [L_l, I_i]
        exact h
    · rw [← h]
      have e5 : (n.I + 1 - (j : Int)).toNat = 0 := by omega
      simp only [e5, roundsR, run_leaf]
  · cases h
theorem ok68_3 (n : Nat) : LoopSimK C (n + 0) 1 68 (loopOf C.P 68 3) (mkLK 1 l68_3 G68_3) := by
  refine loop_ofK hC (sp := sp68) (lp := lp68) (sw := sw68) trivial trivial 1 [] (by kernel_rfl) rfl (fun k hk => by cases hk) (by kernel_rfl) (fun ds => ((ds.getD 4 default).I - (ds.getD 5 default).I).toNat) fun ds rr h => ?_
  unfold G68_3 at h
  split at h
  · rename_i n l m q k i t u
    obtain ⟨hp, h⟩ := need_some h
    rw [yes_iff] at hp
    obtain ⟨h1, h2, h0, h3, h4, h5, h6, h7⟩ := hp
    have hb := big_eq
    refine ⟨by rw [fuelC]; simp; omega, ?_⟩
    rw [show roundTK C (mkTab sp68 lp68 sw68) 68 (loopOf C.P 68 3) 1 l68_3 [n, l, m, q, k, i, t, u] = _ from t68_3 n l m q k i t u]
    obtain ⟨j, hj⟩ : ∃ j : Nat, i.I = j := ⟨i.I.toNat, by omega⟩
    have e6 : ((n.I.toNat : Nat) : Int) = n.I := by omega
    simp only [hj, h0, h3, h4, h7, Int.toNat_natCast, upd1, e6] at h h6 ⊢
    refine rd_if (fun hlt => ?_) fun hge => rd_out ?_
    · refine rd_dec ⟨by omega, by omega⟩ (rd_dec (by simp only [List.length_append, List.length_replicate]; omega) ?_)
      rw [wrap_succ (by omega)]
      have e7 : (n.I - (j : Int)).toNat = (n.I - ((j + 1 : Nat) : Int)).toNat + 1 := by omega
      rw [e7, rep_set]
      refine rd_again ((need_yes ⟨h1, h2, by simp only [I_i], by simp only [I_i], by simp only [I_i], by simp only [I_i]; omega, by simp only [I_i]; omega, by simp only [L_l, I_i, Int.toNat_natCast]⟩).trans ?_) (show (n.I - ((j + 1 : Nat) : Int)).toNat < (k.I - i.I).toNat by omega)
      rw [← h]
      rfl
    · rw [← h]
      have e5 : (n.I - (j : Int)).toNat = 0 := by omega
      have e8 : j = n.I.toNat := by omega
      rw [e5, e8]
      simp only [List.replicate_zero, List.append_nil, run_leaf]
  · cases h
theorem ok68 (n : Nat) : FnOKW C (n + 1) 68 (mkFW s68 G68) := by
  refine fn_ofW hC (sp := sp68) (lp := lp68) (sw := sw68) trivial trivial (by kernel_rfl) [3, 9] (by kernel_rfl) (by kernel_rfl) (fun k hk L hL => by
      simp at hk
      rcases hk with rfl | rfl <;> cases hL
      · exact ok68_3 n
      · exact ok68_9 n) fun ds rr h => ?_
  unfold G68 at h
  split at h
  · rename_i n l m t
    obtain ⟨hp, h⟩ := need_some h
    rw [yes_iff] at hp
    obtain ⟨⟨g1, g2, g3, g4⟩, h2, h3, h4⟩ := hp
    refine (congrArg T.run (t68 n l m t)).trans ?_
    have hg : goodL n.I l.L := ⟨g1, g2, g3, g4⟩
    have e6 : ((n.I.toNat : Nat) : Int) = n.I := by omega
    rw [← h]
    have hroom : room t.L ((l.L.length : Int) * (n.I + 1 - 0)) := by
      refine ⟨1099511627776, h4, ?_⟩
      have : (l.L.length : Int) * (n.I + 1 - 0) ≤ 5500 * 501 := Int.mul_le_mul (by omega) (by omega) (by omega) (by omega)
      omega
    have w : IntKind.i64.wrap (n.I + 1) = n.I + 1 := wrap_id (by omega) (by omega)
    have e7 : (n.I + 1 - 0).toNat = n.I.toNat + 1 := by omega
    simp only [Int.toNat_zero, h2, e6, w, List.length_replicate, bytes3, e7]
    refine go_dec ⟨by omega, by trivial, by omega, by omega⟩ (go_yes ⟨g1, g2, by trivial, by trivial, by trivial, by omega, by omega, by simp⟩ (go_yes ⟨hg, by trivial, by trivial, by trivial, by omega, by omega, h3, by trivial, hroom⟩ ?_))
    rfl
  · cases h
end Go.Proofs.Ytipbcpobnciccaa
