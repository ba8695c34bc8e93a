/-
  Shapes of arguments, results and loops. Written by program.
  What the functions of roads compute: checks and lengths.
  Tables. Written by program.
  What the rounds and the functions come to. Written by program.
  The functions of roads compute what their words say: pieces, lengths.
  The functions of losses compute what their words say.
  Words of the functions of losses where no error is met, and what a loop in two pieces comes to.
  The functions of losses compute what their words say, continued.
  The functions of losses where no error is met; a loop in two pieces; a tyre that is worn more.
  The functions of roads compute what their words say: checks.
  The program's check of roads computes what its word says.
-/
import Derived.Test.YtgoedfonmocafaaGA
import Derived.Test.YtgoedfonmocafaaSymGo
namespace Go.Proofs.Ytgoedfonmocafaa
open Go.Lite
def s55 : Sig := ⟨[.k (.int .i64), .k (.int .i64), .k (.int .i64)], [(.k .bool, [])]⟩
def s88 : Sig := ⟨[.k (.int .i64), .k (.int .i64), .k (.int .i64)], [(.k .bool, [])]⟩
def s97 : Sig := ⟨[.agg [.k (.int .i64), .k (.int .i64), .k (.int .i64), .k (.int .i64), .k (.int .i64)]], [(.k .bool, [])]⟩
def s89 : Sig := ⟨[.agg [.k (.int .i64), .k (.int .i64), .k (.int .i64), .k (.int .i64), .k (.int .i64)]], [(.k .bool, [])]⟩
def s51 : Sig := ⟨[.agg [.k (.ro [.int .i64, .int .i64, .int .i64, .int .i64, .int .i64]), .k (.ro [.int .i64, .int .i64]), .k (.ro [.int .i64, .int .i64, .int .i64])]], [(.k (.int .i64), [])]⟩
def l51_5 : LSig := mkLS [1, 3, 28, 29, 30] [(124, [(1, .ptr 0 3 0 0), (3, .k (.int .i64)), (28, .k (.ro [.int .i64, .int .i64, .int .i64, .int .i64, .int .i64])), (29, .k (.int .i64)), (30, .k (.int .i64))], [.box [.k (.ro [.int .i64, .int .i64, .int .i64, .int .i64, .int .i64]), .k (.ro [.int .i64, .int .i64]), .k (.ro [.int .i64, .int .i64, .int .i64])]])] [(.ret, [2], [(124, [(2, .k (.int .i64))], [])]), (.exit 0, [1, 3], [(124, [(1, .ptr 0 3 0 0), (3, .k (.int .i64))], [.box [.k (.ro [.int .i64, .int .i64, .int .i64, .int .i64, .int .i64]), .k (.ro [.int .i64, .int .i64]), .k (.ro [.int .i64, .int .i64, .int .i64])]])])]
def l51_14 : LSig := mkLS [1, 3, 45, 46, 47] [(124, [(1, .ptr 0 3 0 0), (3, .k (.int .i64)), (45, .k (.ro [.int .i64, .int .i64])), (46, .k (.int .i64)), (47, .k (.int .i64))], [.box [.k (.ro [.int .i64, .int .i64, .int .i64, .int .i64, .int .i64]), .k (.ro [.int .i64, .int .i64]), .k (.ro [.int .i64, .int .i64, .int .i64])]])] [(.ret, [2], [(124, [(2, .k (.int .i64))], [])]), (.exit 2, [1, 3], [(124, [(1, .ptr 0 3 0 0), (3, .k (.int .i64))], [.box [.k (.ro [.int .i64, .int .i64, .int .i64, .int .i64, .int .i64]), .k (.ro [.int .i64, .int .i64]), .k (.ro [.int .i64, .int .i64, .int .i64])]])])]
def l51_20 : LSig := mkLS [1, 3, 81, 82, 83] [(124, [(1, .ptr 0 3 0 0), (3, .k (.int .i64)), (81, .k (.ro [.int .i64, .int .i64, .int .i64])), (82, .k (.int .i64)), (83, .k (.int .i64))], [.box [.k (.ro [.int .i64, .int .i64, .int .i64, .int .i64, .int .i64]), .k (.ro [.int .i64, .int .i64]), .k (.ro [.int .i64, .int .i64, .int .i64])]])] [(.ret, [2], [(124, [(2, .k (.int .i64))], [])]), (.exit 4, [], [(124, [], [])])]
def s19 : Sig := ⟨[.agg [.k (.ro [.int .i64, .int .i64, .int .i64, .int .i64, .int .i64]), .k (.ro [.int .i64, .int .i64]), .k (.ro [.int .i64, .int .i64, .int .i64])]], [(.k (.int .i64), [])]⟩
def l19_3 : LSig := mkLS [1, 3, 4] [(21, [(1, .ptr 0 3 0 0), (3, .k (.int .i64)), (4, .k (.int .i64))], [.box [.k (.ro [.int .i64, .int .i64, .int .i64, .int .i64, .int .i64]), .k (.ro [.int .i64, .int .i64]), .k (.ro [.int .i64, .int .i64, .int .i64])]])] [(.exit 0, [3], [(21, [(3, .k (.int .i64))], [])])]
def s39 : Sig := ⟨[.agg [.k (.ro [.int .i64, .int .i64, .int .i64, .int .i64, .int .i64]), .k (.ro [.int .i64, .int .i64]), .k (.ro [.int .i64, .int .i64, .int .i64])]], [(.k .bool, [])]⟩
def l39_4 : LSig := mkLS [1, 3] [(130, [(1, .ptr 0 3 0 0), (3, .k (.int .i64))], [.box [.k (.ro [.int .i64, .int .i64, .int .i64, .int .i64, .int .i64]), .k (.ro [.int .i64, .int .i64]), .k (.ro [.int .i64, .int .i64, .int .i64])]])] [(.ret, [2], [(130, [(2, .k .bool)], [])]), (.exit 0, [1], [(130, [(1, .ptr 0 3 0 0)], [.box [.k (.ro [.int .i64, .int .i64, .int .i64, .int .i64, .int .i64]), .k (.ro [.int .i64, .int .i64]), .k (.ro [.int .i64, .int .i64, .int .i64])]])])]
def l39_10 : LSig := mkLS [1, 4, 5] [(130, [(1, .ptr 0 3 0 0), (4, .k (.int .i64)), (5, .k (.int .i64))], [.box [.k (.ro [.int .i64, .int .i64, .int .i64, .int .i64, .int .i64]), .k (.ro [.int .i64, .int .i64]), .k (.ro [.int .i64, .int .i64, .int .i64])]])] [(.ret, [2], [(130, [(2, .k .bool)], [])]), (.exit 2, [1, 4], [(130, [(1, .ptr 0 3 0 0), (4, .k (.int .i64))], [.box [.k (.ro [.int .i64, .int .i64, .int .i64, .int .i64, .int .i64]), .k (.ro [.int .i64, .int .i64]), .k (.ro [.int .i64, .int .i64, .int .i64])]])])]
def l39_16 : LSig := mkLS [1, 4, 7] [(130, [(1, .ptr 0 3 0 0), (4, .k (.int .i64)), (7, .k (.int .i64))], [.box [.k (.ro [.int .i64, .int .i64, .int .i64, .int .i64, .int .i64]), .k (.ro [.int .i64, .int .i64]), .k (.ro [.int .i64, .int .i64, .int .i64])]])] [(.ret, [2], [(130, [(2, .k .bool)], [])]), (.exit 4, [4], [(130, [(4, .k (.int .i64))], [])])]
end Go.Proofs.Ytgoedfonmocafaa

namespace Go.Proofs.Ytgoedfonmocafaa
open Go.Lite
noncomputable section

/-! ### Roads -/
def pieceP (a b c d e : Int) : Bool := within a 1 5000 && within b (-1) 1 && within d 15 300 && within e 1 9 && (if b = 0 then decide (c = 0) else within c 5 2000)
def pieceAt (l : List (List D)) (k : Nat) : Bool := pieceP (ix (l.getD k []) 0) (ix (l.getD k []) 1) (ix (l.getD k []) 2) (ix (l.getD k []) 3) (ix (l.getD k []) 4)
def lenFrom (l : List (List D)) : Nat → Nat → Int
  | _, 0 => 0
  | i, k + 1 => ix (l.getD i []) 0 + lenFrom l (i + 1) k
def lenR (l : List (List D)) : Int := lenFrom l 0 l.length
def riseAt (l : List (List D)) (k : Nat) : Bool := decide (k = 0) || decide (ix (l.getD (k - 1) []) 0 < ix (l.getD k []) 0)
def crestAt (n : Int) (l : List (List D)) (k : Nat) : Bool := within (ix (l.getD k []) 0) 0 n && within (ix (l.getD k []) 1) 1 3 && riseAt l k
def juncAt (n : Int) (l : List (List D)) (k : Nat) : Bool := within (ix (l.getD k []) 0) 0 n && within (ix (l.getD k []) 1) 2 6 && within (ix (l.getD k []) 2) 1 (ix (l.getD k []) 1) && riseAt l k
def sizesOk (p c j : List (List D)) : Bool := within p.length 1 2000 && decide (c.length ≤ 1000) && decide (j.length ≤ 200)
def roadOk (p c j : List (List D)) : Bool := sizesOk p c j && allFrom (pieceAt p) 0 p.length && decide (lenR p ≤ 100000) && allFrom (crestAt (lenR p) c) 0 c.length && allFrom (juncAt (lenR p) j) 0 j.length

/-! ### The functions -/
def G55 (ds : List D) : T (List D) := match ds with
  | [a, b, c] => .leaf [.b (within a.I b.I c.I)]
  | _ => .fail
def G88 (ds : List D) : T (List D) := match ds with
  | [a, b, c] => .leaf [.b (within a.I b.I c.I)]
  | _ => .fail
def G97 (ds : List D) : T (List D) := match ds with
  | [a, b, c, d, e] => .leaf [.b (pieceP a.I b.I c.I d.I e.I)]
  | _ => .fail
def G89 (ds : List D) : T (List D) := match ds with
  | [a, b, c, d, e] => .leaf [.b (pieceP a.I b.I c.I d.I e.I)]
  | _ => .fail
def G51 (ds : List D) : T (List D) := match ds with
  | [p, c, j] => .ite (roadOk p.L c.L j.L) (.leaf [.i 0]) (.leaf [.i 2])
  | _ => .fail
def G51_5 (ds : List D) : T (Ex × List D) := match ds with
  | [n, q, m, i, p, c, j] => .need (yes (q.L = p.L ∧ m.I = p.L.length ∧ 0 ≤ i.I ∧ i.I ≤ m.I ∧ m.I ≤ 2000 ∧ 0 ≤ n.I ∧ n.I ≤ 5000 * i.I))
      (.ite (allFrom (pieceAt p.L) i.I.toNat (p.L.length - i.I.toNat)) (.leaf (.exit 0, [.i (n.I + lenFrom p.L i.I.toNat (p.L.length - i.I.toNat)), .l p.L, .l c.L, .l j.L])) (.leaf (.ret, [.i 2])))
  | _ => .fail
def G51_14 (ds : List D) : T (Ex × List D) := match ds with
  | [n, q, m, i, p, c, j] => .need (yes (q.L = c.L ∧ m.I = c.L.length ∧ 0 ≤ i.I ∧ i.I ≤ m.I ∧ m.I ≤ 1000))
      (.ite (allFrom (crestAt n.I c.L) i.I.toNat (c.L.length - i.I.toNat)) (.leaf (.exit 2, [.i n.I, .l p.L, .l c.L, .l j.L])) (.leaf (.ret, [.i 2])))
  | _ => .fail
def G51_20 (ds : List D) : T (Ex × List D) := match ds with
  | [n, q, m, i, _, _, j] => .need (yes (q.L = j.L ∧ m.I = j.L.length ∧ 0 ≤ i.I ∧ i.I ≤ m.I ∧ m.I ≤ 200))
      (.ite (allFrom (juncAt n.I j.L) i.I.toNat (j.L.length - i.I.toNat)) (.leaf (.exit 4, [])) (.leaf (.ret, [.i 2])))
  | _ => .fail
def G19 (ds : List D) : T (List D) := match ds with
  | [p, _, _] => .need (yes (p.L.length ≤ 2000 ∧ allFrom (pieceAt p.L) 0 p.L.length = true)) (.leaf [.i (lenR p.L)])
  | _ => .fail
def G19_3 (ds : List D) : T (Ex × List D) := match ds with
  | [n, i, p, _, _] => .need (yes (p.L.length ≤ 2000 ∧ allFrom (pieceAt p.L) 0 p.L.length = true ∧ 0 ≤ i.I ∧ i.I ≤ p.L.length ∧ 0 ≤ n.I ∧ n.I ≤ 5000 * i.I))
      (.leaf (.exit 0, [.i (n.I + lenFrom p.L i.I.toNat (p.L.length - i.I.toNat))]))
  | _ => .fail
def G39 (ds : List D) : T (List D) := match ds with
  | [p, c, j] => .leaf [.b (roadOk p.L c.L j.L)]
  | _ => .fail
def G39_4 (ds : List D) : T (Ex × List D) := match ds with
  | [i, p, c, j] => .need (yes (p.L.length ≤ 2000 ∧ 0 ≤ i.I ∧ i.I ≤ p.L.length))
      (.ite (allFrom (pieceAt p.L) i.I.toNat (p.L.length - i.I.toNat)) (.leaf (.exit 0, [.l p.L, .l c.L, .l j.L])) (.leaf (.ret, [.b false])))
  | _ => .fail
def G39_10 (ds : List D) : T (Ex × List D) := match ds with
  | [n, i, p, c, j] => .need (yes (c.L.length ≤ 1000 ∧ 0 ≤ i.I ∧ i.I ≤ c.L.length))
      (.ite (allFrom (crestAt n.I c.L) i.I.toNat (c.L.length - i.I.toNat)) (.leaf (.exit 2, [.i n.I, .l p.L, .l c.L, .l j.L])) (.leaf (.ret, [.b false])))
  | _ => .fail
def G39_16 (ds : List D) : T (Ex × List D) := match ds with
  | [n, i, _, _, j] => .need (yes (j.L.length ≤ 200 ∧ 0 ≤ i.I ∧ i.I ≤ j.L.length))
      (.ite (allFrom (juncAt n.I j.L) i.I.toNat (j.L.length - i.I.toNat)) (.leaf (.exit 4, [.i n.I])) (.leaf (.ret, [.b false])))
  | _ => .fail
end
end Go.Proofs.Ytgoedfonmocafaa

namespace Go.Proofs.Ytgoedfonmocafaa
open Go.Lite
noncomputable def sp55 : SpL := []
noncomputable def lp55 : LpL := []
noncomputable def sw55 : SwL := []
noncomputable def tab55 : Tab := mkTab sp55 lp55 sw55
noncomputable def sp88 : SpL := []
noncomputable def lp88 : LpL := []
noncomputable def sw88 : SwL := []
noncomputable def tab88 : Tab := mkTab sp88 lp88 sw88
noncomputable def sp97 : SpL := [(55, mkF s55 G55)]
noncomputable def lp97 : LpL := []
noncomputable def sw97 : SwL := []
noncomputable def tab97 : Tab := mkTab sp97 lp97 sw97
noncomputable def sp89 : SpL := [(88, mkF s88 G88)]
noncomputable def lp89 : LpL := []
noncomputable def sw89 : SwL := []
noncomputable def tab89 : Tab := mkTab sp89 lp89 sw89
noncomputable def sp51 : SpL := [(55, mkF s55 G55), (97, mkF s97 G97)]
noncomputable def lp51 : LpL := [(5, mkL l51_5 G51_5), (14, mkL l51_14 G51_14), (20, mkL l51_20 G51_20)]
noncomputable def sw51 : SwL := []
noncomputable def tab51 : Tab := mkTab sp51 lp51 sw51
noncomputable def sp19 : SpL := []
noncomputable def lp19 : LpL := [(3, mkL l19_3 G19_3)]
noncomputable def sw19 : SwL := []
noncomputable def tab19 : Tab := mkTab sp19 lp19 sw19
noncomputable def sp39 : SpL := [(88, mkF s88 G88), (89, mkF s89 G89), (19, mkF s19 G19)]
noncomputable def lp39 : LpL := [(4, mkL l39_4 G39_4), (10, mkL l39_10 G39_10), (16, mkL l39_16 G39_16)]
noncomputable def sw39 : SwL := []
noncomputable def tab39 : Tab := mkTab sp39 lp39 sw39
end Go.Proofs.Ytgoedfonmocafaa

namespace Go.Proofs.Ytgoedfonmocafaa
open Go.Lite
set_option linter.unusedVariables false
set_option maxRecDepth 100000
theorem t55 (a b c : D) : fnT C tab55 55 s55 [a, b, c] =
  T.ite (decide (D.I a ≥ D.I b)) (T.leaf [D.b (decide (D.I a ≤ D.I c))]) (T.leaf [D.b false]) := by kernel_rfl
theorem t88 (a b c : D) : fnT C tab88 88 s88 [a, b, c] =
  T.ite (decide (D.I a ≥ D.I b)) (T.leaf [D.b (decide (D.I a ≤ D.I c))]) (T.leaf [D.b false]) := by kernel_rfl
theorem t97 (a b c d e : D) : fnT C tab97 97 s97 [a, b, c, d, e] =
  T.ite (D.I b == (0 : Int)) (T.ite (D.I c != (0 : Int)) (T.leaf [D.b false]) (T.ite (D.I b != (0 : Int)) (T.ite (!within (D.I c) (5 : Int) (2000 : Int)) (T.leaf [D.b false]) (T.ite (within (D.I a) (1 : Int) (5000 : Int)) (T.ite (within (D.I b) (-1 : Int) (1 : Int)) (T.ite (within (D.I d) (15 : Int) (300 : Int)) (T.leaf [D.b (within (D.I e) (1 : Int) (9 : Int))]) (T.leaf [D.b false])) (T.leaf [D.b false])) (T.leaf [D.b false]))) (T.ite (within (D.I a) (1 : Int) (5000 : Int)) (T.ite (within (D.I b) (-1 : Int) (1 : Int)) (T.ite (within (D.I d) (15 : Int) (300 : Int)) (T.leaf [D.b (within (D.I e) (1 : Int) (9 : Int))]) (T.leaf [D.b false])) (T.leaf [D.b false])) (T.leaf [D.b false])))) (T.ite (D.I b != (0 : Int)) (T.ite (!within (D.I c) (5 : Int) (2000 : Int)) (T.leaf [D.b false]) (T.ite (within (D.I a) (1 : Int) (5000 : Int)) (T.ite (within (D.I b) (-1 : Int) (1 : Int)) (T.ite (within (D.I d) (15 : Int) (300 : Int)) (T.leaf [D.b (within (D.I e) (1 : Int) (9 : Int))]) (T.leaf [D.b false])) (T.leaf [D.b false])) (T.leaf [D.b false]))) (T.ite (within (D.I a) (1 : Int) (5000 : Int)) (T.ite (within (D.I b) (-1 : Int) (1 : Int)) (T.ite (within (D.I d) (15 : Int) (300 : Int)) (T.leaf [D.b (within (D.I e) (1 : Int) (9 : Int))]) (T.leaf [D.b false])) (T.leaf [D.b false])) (T.leaf [D.b false]))) := by kernel_rfl
theorem t89 (a b c d e : D) : fnT C tab89 89 s89 [a, b, c, d, e] =
  T.ite (!within (D.I a) (1 : Int) (5000 : Int)) (T.leaf [D.b false]) (T.ite (!within (D.I b) (-1 : Int) (1 : Int)) (T.leaf [D.b false]) (T.ite (!within (D.I d) (15 : Int) (300 : Int)) (T.leaf [D.b false]) (T.ite (!within (D.I e) (1 : Int) (9 : Int)) (T.leaf [D.b false]) (T.ite (D.I b == (0 : Int)) (T.leaf [D.b (D.I c == (0 : Int))]) (T.leaf [D.b (within (D.I c) (5 : Int) (2000 : Int))]))))) := by kernel_rfl
theorem t51 (a b c : D) : fnT C tab51 51 s51 [a, b, c] =
  T.ite (!within (↑(List.length (D.L a)) : Int) (1 : Int) (2000 : Int)) (T.leaf [D.i (2 : Int)]) (T.ite (decide ((↑(List.length (D.L b)) : Int) > (1000 : Int))) (T.leaf [D.i (2 : Int)]) (T.ite (decide ((↑(List.length (D.L c)) : Int) > (200 : Int))) (T.leaf [D.i (2 : Int)]) (T.need (yes (D.L a = D.L a ∧ (↑(List.length (D.L a)) : Int) = (↑(List.length (D.L a)) : Int) ∧ (0 : Int) ≤ (0 : Int) ∧ (0 : Int) ≤ (↑(List.length (D.L a)) : Int) ∧ (↑(List.length (D.L a)) : Int) ≤ (2000 : Int) ∧ (0 : Int) ≤ (0 : Int) ∧ (0 : Int) ≤ (5000 : Int) * (0 : Int))) (T.ite (allFrom (pieceAt (D.L a)) (Int.toNat (0 : Int)) (List.length (D.L a) - Int.toNat (0 : Int))) (T.ite (decide ((0 : Int) + lenFrom (D.L a) (Int.toNat (0 : Int)) (List.length (D.L a) - Int.toNat (0 : Int)) > (100000 : Int))) (T.leaf [D.i (2 : Int)]) (T.need (yes (D.L b = D.L b ∧ (↑(List.length (D.L b)) : Int) = (↑(List.length (D.L b)) : Int) ∧ (0 : Int) ≤ (0 : Int) ∧ (0 : Int) ≤ (↑(List.length (D.L b)) : Int) ∧ (↑(List.length (D.L b)) : Int) ≤ (1000 : Int))) (T.ite (allFrom (crestAt ((0 : Int) + lenFrom (D.L a) (Int.toNat (0 : Int)) (List.length (D.L a) - Int.toNat (0 : Int))) (D.L b)) (Int.toNat (0 : Int)) (List.length (D.L b) - Int.toNat (0 : Int))) (T.need (yes (D.L c = D.L c ∧ (↑(List.length (D.L c)) : Int) = (↑(List.length (D.L c)) : Int) ∧ (0 : Int) ≤ (0 : Int) ∧ (0 : Int) ≤ (↑(List.length (D.L c)) : Int) ∧ (↑(List.length (D.L c)) : Int) ≤ (200 : Int))) (T.ite (allFrom (juncAt ((0 : Int) + lenFrom (D.L a) (Int.toNat (0 : Int)) (List.length (D.L a) - Int.toNat (0 : Int))) (D.L c)) (Int.toNat (0 : Int)) (List.length (D.L c) - Int.toNat (0 : Int))) (T.leaf [D.i (0 : Int)]) (T.leaf [D.i (2 : Int)]))) (T.leaf [D.i (2 : Int)])))) (T.leaf [D.i (2 : Int)]))))) := by kernel_rfl
theorem t51_5 (a b c d e f g : D) : roundT C tab51 51 (loopOf C.P 51 5) l51_5 [a, b, c, d, e, f, g] =
  T.ite (decide (D.I d < D.I c)) (T.need (decide ((0 : Int) ≤ D.I d ∧ D.I d < (↑(List.length (D.L b)) : Int))) (T.ite (!pieceP (D.I (List.getD (List.getD (D.L b) (Int.toNat (D.I d)) []) 0 default)) (D.I (List.getD (List.getD (D.L b) (Int.toNat (D.I d)) []) (0 + 1) default)) (D.I (List.getD (List.getD (D.L b) (Int.toNat (D.I d)) []) (0 + 1 + 1) default)) (D.I (List.getD (List.getD (D.L b) (Int.toNat (D.I d)) []) (0 + 1 + 1 + 1) default)) (D.I (List.getD (List.getD (D.L b) (Int.toNat (D.I d)) []) (0 + 1 + 1 + 1 + 1) default))) (T.leaf (Rd.out Ex.ret [D.i (2 : Int)])) (T.leaf (Rd.again [D.i (IntKind.wrap IntKind.i64 (D.I a + D.I (List.getD (List.getD (D.L b) (Int.toNat (D.I d)) []) 0 default))), D.l (D.L b), D.i (D.I c), D.i (IntKind.wrap IntKind.i64 (D.I d + (1 : Int))), D.l (D.L e), D.l (D.L f), D.l (D.L g)])))) (T.leaf (Rd.out (Ex.exit 0) [D.i (D.I a), D.l (D.L e), D.l (D.L f), D.l (D.L g)])) := by kernel_rfl
theorem t51_14 (a b c d e f g : D) : roundT C tab51 51 (loopOf C.P 51 14) l51_14 [a, b, c, d, e, f, g] =
  T.ite (decide (D.I d < D.I c)) (T.need (decide ((0 : Int) ≤ D.I d ∧ D.I d < (↑(List.length (D.L b)) : Int))) (T.ite (!within (D.I (List.getD (List.getD (D.L b) (Int.toNat (D.I d)) []) 0 default)) (0 : Int) (D.I a)) (T.leaf (Rd.out Ex.ret [D.i (2 : Int)])) (T.ite (!within (D.I (List.getD (List.getD (D.L b) (Int.toNat (D.I d)) []) (0 + 1) default)) (1 : Int) (3 : Int)) (T.leaf (Rd.out Ex.ret [D.i (2 : Int)])) (T.ite (decide (D.I d > (0 : Int))) (T.need (decide ((0 : Int) ≤ IntKind.wrap IntKind.i64 (D.I d - (1 : Int)) ∧ IntKind.wrap IntKind.i64 (D.I d - (1 : Int)) < (↑(List.length (D.L f)) : Int))) (T.ite (decide (D.I (List.getD (List.getD (D.L b) (Int.toNat (D.I d)) []) 0 default) ≤ D.I (List.getD (List.getD (D.L f) (Int.toNat (IntKind.wrap IntKind.i64 (D.I d - (1 : Int)))) []) 0 default))) (T.leaf (Rd.out Ex.ret [D.i (2 : Int)])) (T.leaf (Rd.again [D.i (D.I a), D.l (D.L b), D.i (D.I c), D.i (IntKind.wrap IntKind.i64 (D.I d + (1 : Int))), D.l (D.L e), D.l (D.L f), D.l (D.L g)])))) (T.leaf (Rd.again [D.i (D.I a), D.l (D.L b), D.i (D.I c), D.i (IntKind.wrap IntKind.i64 (D.I d + (1 : Int))), D.l (D.L e), D.l (D.L f), D.l (D.L g)])))))) (T.leaf (Rd.out (Ex.exit 2) [D.i (D.I a), D.l (D.L e), D.l (D.L f), D.l (D.L g)])) := by kernel_rfl
theorem t51_20 (a b c d e f g : D) : roundT C tab51 51 (loopOf C.P 51 20) l51_20 [a, b, c, d, e, f, g] =
  T.ite (decide (D.I d < D.I c)) (T.need (decide ((0 : Int) ≤ D.I d ∧ D.I d < (↑(List.length (D.L b)) : Int))) (T.ite (!within (D.I (List.getD (List.getD (D.L b) (Int.toNat (D.I d)) []) 0 default)) (0 : Int) (D.I a)) (T.leaf (Rd.out Ex.ret [D.i (2 : Int)])) (T.ite (!within (D.I (List.getD (List.getD (D.L b) (Int.toNat (D.I d)) []) (0 + 1) default)) (2 : Int) (6 : Int)) (T.leaf (Rd.out Ex.ret [D.i (2 : Int)])) (T.ite (!within (D.I (List.getD (List.getD (D.L b) (Int.toNat (D.I d)) []) (0 + 1 + 1) default)) (1 : Int) (D.I (List.getD (List.getD (D.L b) (Int.toNat (D.I d)) []) (0 + 1) default))) (T.leaf (Rd.out Ex.ret [D.i (2 : Int)])) (T.ite (decide (D.I d > (0 : Int))) (T.need (decide ((0 : Int) ≤ IntKind.wrap IntKind.i64 (D.I d - (1 : Int)) ∧ IntKind.wrap IntKind.i64 (D.I d - (1 : Int)) < (↑(List.length (D.L g)) : Int))) (T.ite (decide (D.I (List.getD (List.getD (D.L b) (Int.toNat (D.I d)) []) 0 default) ≤ D.I (List.getD (List.getD (D.L g) (Int.toNat (IntKind.wrap IntKind.i64 (D.I d - (1 : Int)))) []) 0 default))) (T.leaf (Rd.out Ex.ret [D.i (2 : Int)])) (T.leaf (Rd.again [D.i (D.I a), D.l (D.L b), D.i (D.I c), D.i (IntKind.wrap IntKind.i64 (D.I d + (1 : Int))), D.l (D.L e), D.l (D.L f), D.l (D.L g)])))) (T.leaf (Rd.again [D.i (D.I a), D.l (D.L b), D.i (D.I c), D.i (IntKind.wrap IntKind.i64 (D.I d + (1 : Int))), D.l (D.L e), D.l (D.L f), D.l (D.L g)]))))))) (T.leaf (Rd.out (Ex.exit 4) [])) := by kernel_rfl
theorem t19 (a b c : D) : fnT C tab19 19 s19 [a, b, c] =
  T.need (yes (List.length (D.L a) ≤ 2000 ∧ allFrom (pieceAt (D.L a)) 0 (List.length (D.L a)) = true ∧ (0 : Int) ≤ (0 : Int) ∧ (0 : Int) ≤ (↑(List.length (D.L a)) : Int) ∧ (0 : Int) ≤ (0 : Int) ∧ (0 : Int) ≤ (5000 : Int) * (0 : Int))) (T.leaf [D.i ((0 : Int) + lenFrom (D.L a) (Int.toNat (0 : Int)) (List.length (D.L a) - Int.toNat (0 : Int)))]) := by kernel_rfl
theorem t19_3 (a b c d e : D) : roundT C tab19 19 (loopOf C.P 19 3) l19_3 [a, b, c, d, e] =
  T.ite (decide (D.I b < (↑(List.length (D.L c)) : Int))) (T.need (decide ((0 : Int) ≤ D.I b ∧ D.I b < (↑(List.length (D.L c)) : Int))) (T.leaf (Rd.again [D.i (IntKind.wrap IntKind.i64 (D.I a + D.I (List.getD (List.getD (D.L c) (Int.toNat (D.I b)) []) 0 default))), D.i (IntKind.wrap IntKind.i64 (D.I b + (1 : Int))), D.l (D.L c), D.l (D.L d), D.l (D.L e)]))) (T.leaf (Rd.out (Ex.exit 0) [D.i (D.I a)])) := by kernel_rfl
theorem t39 (a b c : D) : fnT C tab39 39 s39 [a, b, c] =
  T.ite (!within (↑(List.length (D.L a)) : Int) (1 : Int) (2000 : Int)) (T.leaf [D.b false]) (T.ite (decide ((↑(List.length (D.L b)) : Int) > (1000 : Int))) (T.leaf [D.b false]) (T.ite (decide ((↑(List.length (D.L c)) : Int) > (200 : Int))) (T.leaf [D.b false]) (T.need (yes (List.length (D.L a) ≤ 2000 ∧ (0 : Int) ≤ (0 : Int) ∧ (0 : Int) ≤ (↑(List.length (D.L a)) : Int))) (T.ite (allFrom (pieceAt (D.L a)) (Int.toNat (0 : Int)) (List.length (D.L a) - Int.toNat (0 : Int))) (T.need (yes (List.length (D.L a) ≤ 2000 ∧ allFrom (pieceAt (D.L a)) 0 (List.length (D.L a)) = true)) (T.need (yes (List.length (D.L b) ≤ 1000 ∧ (0 : Int) ≤ (0 : Int) ∧ (0 : Int) ≤ (↑(List.length (D.L b)) : Int))) (T.ite (allFrom (crestAt (lenR (D.L a)) (D.L b)) (Int.toNat (0 : Int)) (List.length (D.L b) - Int.toNat (0 : Int))) (T.need (yes (List.length (D.L c) ≤ 200 ∧ (0 : Int) ≤ (0 : Int) ∧ (0 : Int) ≤ (↑(List.length (D.L c)) : Int))) (T.ite (allFrom (juncAt (lenR (D.L a)) (D.L c)) (Int.toNat (0 : Int)) (List.length (D.L c) - Int.toNat (0 : Int))) (T.leaf [D.b (decide (lenR (D.L a) ≤ (100000 : Int)))]) (T.leaf [D.b false]))) (T.leaf [D.b false])))) (T.leaf [D.b false]))))) := by kernel_rfl
theorem t39_4 (a b c d : D) : roundT C tab39 39 (loopOf C.P 39 4) l39_4 [a, b, c, d] =
  T.ite (decide (D.I a < (↑(List.length (D.L b)) : Int))) (T.need (decide ((0 : Int) ≤ D.I a ∧ D.I a < (↑(List.length (D.L b)) : Int))) (T.ite (!pieceP (D.I (List.getD (List.getD (D.L b) (Int.toNat (D.I a)) []) 0 default)) (D.I (List.getD (List.getD (D.L b) (Int.toNat (D.I a)) []) (0 + 1) default)) (D.I (List.getD (List.getD (D.L b) (Int.toNat (D.I a)) []) (0 + 1 + 1) default)) (D.I (List.getD (List.getD (D.L b) (Int.toNat (D.I a)) []) (0 + 1 + 1 + 1) default)) (D.I (List.getD (List.getD (D.L b) (Int.toNat (D.I a)) []) (0 + 1 + 1 + 1 + 1) default))) (T.leaf (Rd.out Ex.ret [D.b false])) (T.leaf (Rd.again [D.i (IntKind.wrap IntKind.i64 (D.I a + (1 : Int))), D.l (D.L b), D.l (D.L c), D.l (D.L d)])))) (T.leaf (Rd.out (Ex.exit 0) [D.l (D.L b), D.l (D.L c), D.l (D.L d)])) := by kernel_rfl
theorem t39_10 (a b c d e : D) : roundT C tab39 39 (loopOf C.P 39 10) l39_10 [a, b, c, d, e] =
  T.ite (decide (D.I b < (↑(List.length (D.L d)) : Int))) (T.need (decide ((0 : Int) ≤ D.I b ∧ D.I b < (↑(List.length (D.L d)) : Int))) (T.ite (!within (D.I (List.getD (List.getD (D.L d) (Int.toNat (D.I b)) []) 0 default)) (0 : Int) (D.I a)) (T.leaf (Rd.out Ex.ret [D.b false])) (T.ite (!within (D.I (List.getD (List.getD (D.L d) (Int.toNat (D.I b)) []) (0 + 1) default)) (1 : Int) (3 : Int)) (T.leaf (Rd.out Ex.ret [D.b false])) (T.ite (decide (D.I b > (0 : Int))) (T.need (decide ((0 : Int) ≤ IntKind.wrap IntKind.i64 (D.I b - (1 : Int)) ∧ IntKind.wrap IntKind.i64 (D.I b - (1 : Int)) < (↑(List.length (D.L d)) : Int))) (T.ite (decide (D.I (List.getD (List.getD (D.L d) (Int.toNat (D.I b)) []) 0 default) ≤ D.I (List.getD (List.getD (D.L d) (Int.toNat (IntKind.wrap IntKind.i64 (D.I b - (1 : Int)))) []) 0 default))) (T.leaf (Rd.out Ex.ret [D.b false])) (T.leaf (Rd.again [D.i (D.I a), D.i (IntKind.wrap IntKind.i64 (D.I b + (1 : Int))), D.l (D.L c), D.l (D.L d), D.l (D.L e)])))) (T.leaf (Rd.again [D.i (D.I a), D.i (IntKind.wrap IntKind.i64 (D.I b + (1 : Int))), D.l (D.L c), D.l (D.L d), D.l (D.L e)])))))) (T.leaf (Rd.out (Ex.exit 2) [D.i (D.I a), D.l (D.L c), D.l (D.L d), D.l (D.L e)])) := by kernel_rfl
theorem t39_16 (a b c d e : D) : roundT C tab39 39 (loopOf C.P 39 16) l39_16 [a, b, c, d, e] =
  T.ite (decide (D.I b < (↑(List.length (D.L e)) : Int))) (T.need (decide ((0 : Int) ≤ D.I b ∧ D.I b < (↑(List.length (D.L e)) : Int))) (T.ite (!within (D.I (List.getD (List.getD (D.L e) (Int.toNat (D.I b)) []) 0 default)) (0 : Int) (D.I a)) (T.leaf (Rd.out Ex.ret [D.b false])) (T.ite (!within (D.I (List.getD (List.getD (D.L e) (Int.toNat (D.I b)) []) (0 + 1) default)) (2 : Int) (6 : Int)) (T.leaf (Rd.out Ex.ret [D.b false])) (T.ite (!within (D.I (List.getD (List.getD (D.L e) (Int.toNat (D.I b)) []) (0 + 1 + 1) default)) (1 : Int) (D.I (List.getD (List.getD (D.L e) (Int.toNat (D.I b)) []) (0 + 1) default))) (T.leaf (Rd.out Ex.ret [D.b false])) (T.ite (decide (D.I b > (0 : Int))) (T.need (decide ((0 : Int) ≤ IntKind.wrap IntKind.i64 (D.I b - (1 : Int)) ∧ IntKind.wrap IntKind.i64 (D.I b - (1 : Int)) < (↑(List.length (D.L e)) : Int))) (T.ite (decide (D.I (List.getD (List.getD (D.L e) (Int.toNat (D.I b)) []) 0 default) ≤ D.I (List.getD (List.getD (D.L e) (Int.toNat (IntKind.wrap IntKind.i64 (D.I b - (1 : Int)))) []) 0 default))) (T.leaf (Rd.out Ex.ret [D.b false])) (T.leaf (Rd.again [D.i (D.I a), D.i (IntKind.wrap IntKind.i64 (D.I b + (1 : Int))), D.l (D.L c), D.l (D.L d), D.l (D.L e)])))) (T.leaf (Rd.again [D.i (D.I a), D.i (IntKind.wrap IntKind.i64 (D.I b + (1 : Int))), D.l (D.L c), D.l (D.L d), D.l (D.L e)]))))))) (T.leaf (Rd.out (Ex.exit 4) [D.i (D.I a)])) := by kernel_rfl
end Go.Proofs.Ytgoedfonmocafaa

namespace Go.Proofs.Ytgoedfonmocafaa
open Go.Lite

theorem ok55 (n : Nat) : FnOK C (n + 1) 55 (mkF s55 G55) := by
  refine fn_of hC (sp := sp55) (lp := lp55) trivial (by kernel_rfl) [] (by kernel_rfl) rfl (fun k hk => by cases hk) fun ds r h => ?_
  unfold G55 at h
  split at h
  · rename_i a b c
    rw [← h]
    refine (congrArg T.run (t55 a b c)).trans ?_
    simp only [run_ite, run_leaf, within]
    split <;> rename_i hc
    · have : b.I ≤ a.I := of_decide_eq_true hc
      simp [this]
    · have : ¬ b.I ≤ a.I := fun h => hc (decide_eq_true h)
      simp [this]
  · cases h
theorem ok88 (n : Nat) : FnOK C (n + 1) 88 (mkF s88 G88) := by
  refine fn_of hC (sp := sp88) (lp := lp88) trivial (by kernel_rfl) [] (by kernel_rfl) rfl (fun k hk => by cases hk) fun ds r h => ?_
  unfold G88 at h
  split at h
  · rename_i a b c
    rw [← h]
    refine (congrArg T.run (t88 a b c)).trans ?_
    simp only [run_ite, run_leaf, within]
    split <;> rename_i hc
    · have : b.I ≤ a.I := of_decide_eq_true hc
      simp [this]
    · have : ¬ b.I ≤ a.I := fun h => hc (decide_eq_true h)
      simp [this]
  · cases h
theorem ok89 (n : Nat) : FnOK C (n + 2) 89 (mkF s89 G89) := by
  refine fn_of hC (sp := sp89) (lp := lp89) ⟨ok88 n, trivial⟩ (by kernel_rfl) [] (by kernel_rfl) rfl (fun k hk => by cases hk) fun ds r h => ?_
  unfold G89 at h
  split at h
  · rename_i a b c d e
    rw [← h]
    refine (congrArg T.run (t89 a b c d e)).trans ?_
    simp only [run_ite, run_leaf, pieceP]
    cases within a.I 1 5000 <;> cases within b.I (-1) 1 <;> cases within d.I 15 300 <;> cases within e.I 1 9 <;> simp
    by_cases h0 : b.I = 0 <;> simp [h0] <;> first | rfl | (by_cases h1 : c.I = 0 <;> simp [h1])
  · cases h
theorem ok97 (n : Nat) : FnOK C (n + 2) 97 (mkF s97 G97) := by
  refine fn_of hC (sp := sp97) (lp := lp97) ⟨ok55 n, trivial⟩ (by kernel_rfl) [] (by kernel_rfl) rfl (fun k hk => by cases hk) fun ds r h => ?_
  unfold G97 at h
  split at h
  · rename_i a b c d e
    rw [← h]
    refine (congrArg T.run (t97 a b c d e)).trans ?_
    simp only [run_ite, run_leaf, pieceP]
    cases within a.I 1 5000 <;> cases within b.I (-1) 1 <;> cases within d.I 15 300 <;> cases within e.I 1 9 <;> cases within c.I 5 2000 <;> by_cases h0 : b.I = 0 <;> by_cases h1 : c.I = 0 <;> simp [h0, h1]
  · cases h
theorem out_ok {G : List D → T (Ex × List D)} {μ : List D → Nat} {ds : List D} {r : Ex × List D} {X : Option Rd} (h : X = some (.out r.1 r.2)) : RdOK G μ ds r X := ⟨_, h, .inr rfl⟩
theorem again_ok {G : List D → T (Ex × List D)} {μ : List D → Nat} {ds ds' : List D} {r : Ex × List D} {X : Option Rd} (h : X = some (.again ds')) (h1 : (G ds').run = some r) (h2 : μ ds' < μ ds) : RdOK G μ ds r X := ⟨_, h, .inl ⟨_, rfl, h1, h2⟩⟩
theorem lenFrom_bound {l : List (List D)} : ∀ (k i : Nat), (∀ j, i ≤ j → j < i + k → pieceAt l j = true) → 0 ≤ lenFrom l i k ∧ lenFrom l i k ≤ 5000 * k
  | 0, _, _ => by simp [lenFrom]
  | k + 1, i, h => by
    have h1 := lenFrom_bound (l := l) k (i + 1) fun j a b => h j (by omega) (by omega)
    have h2 := h i (Nat.le_refl _) (by omega)
    simp only [pieceAt, pieceP, Bool.and_eq_true, Lite.within_iff] at h2
    obtain ⟨⟨⟨⟨h3, _⟩, _⟩, _⟩, _⟩ := h2
    simp only [lenFrom]
    omega
theorem ok19_3 (n : Nat) : LoopSim C (n + 1) 19 (loopOf C.P 19 3) (mkL l19_3 G19_3) := by
  refine loop_of hC (sp := sp19) (lp := lp19) trivial [] (by kernel_rfl) rfl (fun k hk => by cases hk) (by kernel_rfl) (fun ds => (((ds.getD 2 default).L.length : Int) - (ds.getD 1 default).I).toNat) fun ds r h => ?_
  unfold G19_3 at h
  split at h
  · rename_i m i p c j
    obtain ⟨hp, h⟩ := need_some h
    rw [yes_iff] at hp
    obtain ⟨h1, h2, h3, h4, h5, h6⟩ := hp
    refine ⟨by rw [fuelC]; simp; omega, ?_⟩
    rw [show roundT C (mkTab sp19 lp19) 19 (loopOf C.P 19 3) l19_3 [m, i, p, c, j] = _ from t19_3 m i p c j]
    obtain ⟨k, hk⟩ : ∃ k : Nat, i.I = k := ⟨i.I.toNat, by omega⟩
    rw [hk] at h h4 h6 ⊢
    simp only [run_leaf, Int.toNat_natCast] at h
    by_cases hlt : (k : Int) < p.L.length
    · have hb := lenFrom_bound (l := p.L) 1 k fun y _ hy => (allFrom_iff.1 h2) y (Nat.zero_le _) (by omega)
      simp only [lenFrom] at hb
      have w0 : IntKind.i64.wrap (m.I + ix (p.L.getD k []) 0) = m.I + ix (p.L.getD k []) 0 := wrap_id (by omega) (by omega)
      have w1 : IntKind.i64.wrap ((k : Int) + 1) = ((k + 1 : Nat) : Int) := wrap_succ (by omega)
      refine again_ok (ds' := [D.i (m.I + ix (p.L.getD k []) 0), D.i (k + 1 : Nat), D.l p.L, D.l c.L, D.l j.L]) ?_ ?_ ?_
      · simp only [run_ite, run_need, run_leaf, hlt, decide_true, if_true, Int.toNat_natCast, ix_def, w0, w1, show (0 : Int) ≤ (k : Int) from by omega, and_self]
      · refine (need_yes ⟨h1, h2, by simp only [I_i]; omega, by simp only [I_i, L_l]; omega, by simp only [I_i]; omega, by simp only [I_i]; omega⟩).trans ?_
        rw [← h, show p.L.length - k = (p.L.length - (k + 1)) + 1 by omega]
        simp only [run_leaf, I_i, L_l, Int.toNat_natCast, lenFrom, Int.add_assoc]
      · show ((p.L.length : Int) - ((k + 1 : Nat) : Int)).toNat < ((p.L.length : Int) - i.I).toNat
        omega
    · refine out_ok ?_
      rw [show p.L.length - k = 0 by omega] at h
      simp only [lenFrom, Int.add_zero, Option.some.injEq] at h
      simp only [run_ite, run_leaf, hlt, decide_false, Bool.false_eq_true, if_false, ← h]
  · cases h
theorem ok19 (n : Nat) : FnOK C (n + 2) 19 (mkF s19 G19) := by
  refine fn_of hC (sp := sp19) (lp := lp19) trivial (by kernel_rfl) [3] (by kernel_rfl) (by kernel_rfl) (fun k hk L hL => by simp at hk; subst hk; cases hL; exact ok19_3 n) fun ds r h => ?_
  unfold G19 at h
  split at h
  · rename_i p c j
    obtain ⟨hp, h⟩ := need_some h
    rw [yes_iff] at hp
    rw [← h]
    refine (congrArg T.run (t19 p c j)).trans ?_
    refine (need_yes ⟨hp.1, hp.2, by omega, by omega, by omega, by omega⟩).trans ?_
    simp only [run_leaf, lenR, Int.zero_add, Int.toNat_zero, Nat.sub_zero]
  · cases h
end Go.Proofs.Ytgoedfonmocafaa

namespace Go.Proofs.Ytgoedfonmocafaa
open Go.Lite

/-! ### Bounds -/
theorem drive_comp {dry wet wl : List (List D)} {loss : Int} (h : compoundOk dry wet wl loss = true) : dry.length ≤ 8 ∧ wet.length = dry.length ∧ wl.length = dry.length ∧ (0 ≤ loss ∧ loss ≤ 1000) ∧ ∀ j, j < dry.length → 0 ≤ ix (wl.getD j []) 0 ∧ ix (wl.getD j []) 0 ≤ 1000 := by
  simp only [compoundOk, Bool.and_eq_true, Lite.within_iff, decide_eq_true_eq, rowsOk, wearOk, allFrom_iff] at h
  obtain ⟨⟨⟨⟨⟨⟨h3, h4⟩, h5⟩, h6⟩, h7⟩, h8⟩, h9⟩ := h
  exact ⟨by omega, h4, h5, h6, fun j hj => h9 j (Nat.zero_le _) (by omega)⟩
theorem stretch_of {l : List (List D)} {n : Int} (h : loopOk l n = true) : l.length ≤ 30 ∧ ∀ j, j < l.length → (0 ≤ ix (l.getD j []) 0 ∧ ix (l.getD j []) 0 ≤ n - 1) ∧ (0 ≤ ix (l.getD j []) 1 ∧ ix (l.getD j []) 1 ≤ 100000) ∧ (-40 ≤ ix (l.getD j []) 2 ∧ ix (l.getD j []) 2 ≤ 80) := by
  simp only [loopOk, Bool.and_eq_true, decide_eq_true_eq, allFrom_iff, stretchAt, stretchP, Lite.within_iff] at h
  exact ⟨h.1, fun j hj => by have := h.2 j (Nat.zero_le _) (by omega); exact ⟨this.1.1, this.1.2, this.2⟩⟩
theorem gripV_rng {g d h : Int} (hg : 0 ≤ g ∧ g ≤ 1000) (hd : 0 ≤ d ∧ d ≤ 1000) (hh : 0 ≤ h ∧ h ≤ 1000000) : 0 ≤ gripV g d h ∧ gripV g d h ≤ 1000 := by
  unfold gripV
  have h1 : 0 ≤ d * h := Int.mul_nonneg hd.1 hh.1
  have h2 : d * h ≤ 1000 * 1000000 := Int.mul_le_mul hd.2 hh.2 hh.1 (by omega)
  have := @Lite.tdiv_between g (d * h) 1000000000 h1 (by omega) (by omega)
  rw [Int.mul_assoc]
  generalize (g * (d * h)).tdiv 1000000000 = x at *
  omega
/-- What one stretch takes. -/
theorem step_of {dry wet wl : List (List D)} {loss w : Int} {l : List (List D)} (hp : drivePre dry wet wl loss l) (hw : 0 ≤ w ∧ w ≤ 1000000) {j : Nat} (hj : j < l.length) :
    surfOk dry wet (ix (l.getD j []) 0) (bx (l.getD j []) 3) ∧ (-40 ≤ ix (l.getD j []) 2 ∧ ix (l.getD j []) 2 ≤ 80) ∧ (0 ≤ loss ∧ loss ≤ 1000) ∧ (0 ≤ ix (l.getD j []) 0 ∧ ix (l.getD j []) 0 < (wl.length : Int)) ∧
    (0 ≤ ix (l.getD j []) 1 ∧ ix (l.getD j []) 1 ≤ 100000) ∧ (0 ≤ ix (wl.getD (ix (l.getD j []) 0).toNat []) 0 ∧ ix (wl.getD (ix (l.getD j []) 0).toNat []) 0 ≤ 1000) ∧
    (0 ≤ gripC dry wet loss (ix (l.getD j []) 0) (ix (l.getD j []) 2) (bx (l.getD j []) 3) w ∧ gripC dry wet loss (ix (l.getD j []) 0) (ix (l.getD j []) 2) (bx (l.getD j []) 3) w ≤ 1000) ∧
    (0 ≤ stepLoss dry wet loss w (l.getD j []) ∧ stepLoss dry wet loss w (l.getD j []) ≤ 100000) ∧
    (0 ≤ ix (l.getD j []) 1 * ix (wl.getD (ix (l.getD j []) 0).toNat []) 0 ∧ ix (l.getD j []) 1 * ix (wl.getD (ix (l.getD j []) 0).toNat []) 0 ≤ 100000000) := by
  obtain ⟨c1, c2, c3, c4, c5⟩ := drive_comp hp.1
  obtain ⟨s1, s2⟩ := stretch_of hp.2
  obtain ⟨a1, a2, a3⟩ := s2 j hj
  have hs := surf_of (w := bx (l.getD j []) 3) hp.1 (Lite.within_iff.2 a1)
  have hwl := c5 (ix (l.getD j []) 0).toNat (by omega)
  have hg : 0 ≤ gripC dry wet loss (ix (l.getD j []) 0) (ix (l.getD j []) 2) (bx (l.getD j []) 3) w ∧ gripC dry wet loss (ix (l.getD j []) 0) (ix (l.getD j []) 2) (bx (l.getD j []) 3) w ≤ 1000 := gripV_rng (freshV_range hs.1.2.2.2) c4 hw
  refine ⟨hs.1, a3, c4, ⟨a1.1, by omega⟩, a2, hwl, hg, ?_, ?_⟩
  · unfold stepLoss
    generalize gripC dry wet loss (ix (l.getD j []) 0) (ix (l.getD j []) 2) (bx (l.getD j []) 3) w = g at *
    have := (@Lite.tdiv_between (ix (l.getD j []) 1) (1000 - g) 1000 (by omega) (by omega) (by omega)).1 a2.1
    omega
  · exact ⟨Int.mul_nonneg a2.1 hwl.1, Int.le_trans (Int.mul_le_mul a2.2 hwl.2 hwl.1 (by omega)) (by decide)⟩

theorem ok105 (n : Nat) : FnOK C (n + 2) 105 (mkF s105 G105) := by
  refine fn_of hC (sp := sp105) (lp := lp105) ⟨ok64 n, trivial⟩ (by kernel_rfl) [] (by kernel_rfl) rfl (fun k hk => by cases hk) fun ds r h => ?_
  unfold G105 at h
  split at h
  · rename_i a b c u m
    obtain ⟨hp, h⟩ := need_some h
    rw [yes_iff] at hp
    rw [← h]
    refine (congrArg T.run (t105 a b c u m)).trans ?_
    have hw : IntKind.i64.wrap (m.I - 1) = m.I - 1 := wrap_id (by have := hp.1; omega) (by have := hp.2; omega)
    simp only [run_ite, run_leaf, stretchP, hw]
    grind
  · cases h
theorem ok131_2 (n : Nat) : LoopSim C (n + 2) 131 (loopOf C.P 131 2) (mkL l131_2 G131_2) := by
  refine loop_of hC (sp := sp131) (lp := lp131) ⟨ok105 n, trivial⟩ [] (by kernel_rfl) rfl (fun k hk => by cases hk) (by kernel_rfl) (fun ds => ((ds.getD 2 default).I - (ds.getD 3 default).I).toNat) fun ds r h => ?_
  unfold G131_2 at h
  split at h
  · rename_i l s m i
    obtain ⟨hp, h⟩ := need_some h
    rw [yes_iff] at hp
    obtain ⟨h1, h2, h3, h4, h5⟩ := hp
    have hb : big = 4611686018427387904 := rfl
    refine ⟨by rw [fuelC]; simp; omega, ?_⟩
    rw [show roundT C (mkTab sp131 lp131) 131 (loopOf C.P 131 2) l131_2 [l, s, m, i] = _ from t131_2 l s m i]
    obtain ⟨k, hk⟩ : ∃ k : Nat, i.I = k := ⟨i.I.toNat, by omega⟩
    simp only [run_ite, run_need, run_leaf, hk, h3, yes_true h2, Int.toNat_natCast] at h h5 ⊢
    refine first_loop (p := fun j => !stretchAt l.L s.I j) (i := k) (len := l.L.length) [D.l l.L, D.i s.I, D.i l.L.length, D.i (k + 1 : Nat)] h ?_ ?_
    · simp only [wrap_succ (show k < 9223372036854775807 by omega), ix_def, Nat.zero_add, stretchAt]
      grind
    · intro hlt hp hh
      refine ⟨Eq.trans (need_yes (p := _) (t := _) ?_) hh, ?_⟩
      · simp only [I_i, L_l]
        exact ⟨h1, h2, trivial, by omega, by omega⟩
      · show ((l.L.length : Int) - ((k + 1 : Nat) : Int)).toNat < (m.I - i.I).toNat
        omega
  · cases h
theorem ok131 (n : Nat) : FnOK C (n + 3) 131 (mkF s131 G131) := by
  refine fn_of hC (sp := sp131) (lp := lp131) ⟨ok105 n, trivial⟩ (by kernel_rfl) [2] (by kernel_rfl) (by kernel_rfl) (fun k hk L hL => by simp at hk; subst hk; cases hL; exact ok131_2 n) fun ds r h => ?_
  unfold G131 at h
  split at h
  · rename_i l s
    obtain ⟨hp, h⟩ := need_some h
    rw [yes_iff] at hp
    rw [← h]
    refine (congrArg T.run (t131 l s)).trans ?_
    refine (need_yes ⟨hp.1, hp.2, by omega, by omega, by omega⟩).trans ?_
    simp only [run_ite, run_leaf, Int.toNat_zero, Nat.sub_zero]
    split
    · rfl
    · rename_i hc
      have : ¬ firstFrom (fun j => !stretchAt l.L s.I j) 0 l.L.length ≥ 0 := fun hh => hc (decide_eq_true hh)
      rw [firstFrom_neg (by omega)]
  · cases h
theorem ok104 (n : Nat) : FnOK C (n + 4) 104 (mkF s104 G104) := by
  refine fn_of hC (sp := sp104) (lp := lp104) ⟨ok131 n, ok105 (n + 1), trivial⟩ (by kernel_rfl) [] (by kernel_rfl) rfl (fun k hk => by cases hk) fun ds r h => ?_
  unfold G104 at h
  split at h
  · rename_i l s
    rw [← h]
    refine (congrArg T.run (t104 l s)).trans ?_
    rw [firstFrom_all]
    simp only [Bool.not_not]
  · cases h
theorem ok63 (n : Nat) : FnOK C (n + 5) 63 (mkF s63 G63) := by
  refine fn_of hC (sp := sp63) (lp := lp63) ⟨ok104 n, ok105 (n + 2), trivial⟩ (by kernel_rfl) [] (by kernel_rfl) rfl (fun k hk => by cases hk) fun ds r h => ?_
  unfold G63 at h
  split at h
  · rename_i l s
    obtain ⟨hp, h⟩ := need_some h
    rw [yes_iff] at hp
    rw [← h]
    refine (congrArg T.run (t63 l s)).trans ?_
    have hb : big = 4611686018427387904 := rfl
    simp only [run_ite, run_need, run_leaf, loopOk]
    by_cases hl : l.L.length ≤ 30
    · have hl' : (l.L.length : Int) ≤ 30 := by omega
      simp [hl, hl', yes_true (p := l.L.length < big ∧ fewN s.I) ⟨by omega, hp⟩]
    · have hl' : ¬ (l.L.length : Int) ≤ 30 := by omega
      simp [hl, hl']
  · cases h
theorem ok65_3 (n : Nat) : LoopSim C (n + 3) 65 (loopOf C.P 65 3) (mkL l65_3 G65_3) := by
  refine loop_of hC (sp := sp65) (lp := lp65) ⟨ok96 n, trivial⟩ [] (by kernel_rfl) rfl (fun k hk => by cases hk) (by kernel_rfl) (fun ds => ((ds.getD 4 default).I - (ds.getD 5 default).I).toNat) fun ds r h => ?_
  unfold G65_3 at h
  split at h
  · rename_i w s q l m i a b c d
    obtain ⟨hp, h⟩ := need_some h
    rw [yes_iff] at hp
    obtain ⟨h1, h2, h3, h4, h5, h6, h7, h8⟩ := hp
    have hb : big = 4611686018427387904 := rfl
    have hlen := (stretch_of h1.2).1
    refine ⟨by rw [fuelC]; simp; omega, ?_⟩
    rw [show roundT C (mkTab sp65 lp65) 65 (loopOf C.P 65 3) l65_3 [w, s, q, l, m, i, a, b, c, d] = _ from t65_3 w s q l m i a b c d]
    obtain ⟨k, hk⟩ : ∃ k : Nat, i.I = k := ⟨i.I.toNat, by omega⟩
    simp only [run_ite, run_need, run_leaf, hk, h4, Int.toNat_natCast] at h h6 h8 ⊢
    by_cases hlt : k < l.L.length
    · obtain ⟨p1, p2, p3, p4, p5, p6, p7, p8, p9⟩ := step_of h1 (w := w.I) ⟨h2, h3⟩ hlt
      have d0 : decide ((k : Int) < (l.L.length : Int)) = true := decide_eq_true (by omega)
      have d1 : decide ((0 : Int) ≤ (k : Int) ∧ (k : Int) < (l.L.length : Int)) = true := decide_eq_true ⟨by omega, by omega⟩
      have d2 := yes_true (p := surfOk a.L b.L (ix (l.L.getD k []) 0) (bx (l.L.getD k []) 3) ∧ -40 ≤ ix (l.L.getD k []) 2 ∧ ix (l.L.getD k []) 2 ≤ 80 ∧ 0 ≤ d.I ∧ d.I ≤ 1000 ∧ 0 ≤ w.I ∧ w.I ≤ 1000000) ⟨p1, p2.1, p2.2, p3.1, p3.2, h2, h3⟩
      have d3 : (0 ≤ ix (l.L.getD k []) 0 ∧ ix (l.L.getD k []) 0 < (c.L.length : Int)) = True := eq_true p4
      have e8 : stepLoss a.L b.L d.I w.I (l.L.getD k []) = (ix (l.L.getD k []) 1 * (1000 - gripC a.L b.L d.I (ix (l.L.getD k []) 0) (ix (l.L.getD k []) 2) (bx (l.L.getD k []) 3) w.I)).tdiv 1000 := rfl
      have e9 : stepWear c.L w.I (l.L.getD k []) = w.I + ix (l.L.getD k []) 1 * ix (c.L.getD (ix (l.L.getD k []) 0).toNat []) 0 := rfl
      have w0 : IntKind.i64.wrap (1000 - gripC a.L b.L d.I (ix (l.L.getD k []) 0) (ix (l.L.getD k []) 2) (bx (l.L.getD k []) 3) w.I) = 1000 - gripC a.L b.L d.I (ix (l.L.getD k []) 0) (ix (l.L.getD k []) 2) (bx (l.L.getD k []) 3) w.I := wrap_id (by omega) (by omega)
      have w1 : IntKind.i64.wrap (ix (l.L.getD k []) 1 * (1000 - gripC a.L b.L d.I (ix (l.L.getD k []) 0) (ix (l.L.getD k []) 2) (bx (l.L.getD k []) 3) w.I)) = ix (l.L.getD k []) 1 * (1000 - gripC a.L b.L d.I (ix (l.L.getD k []) 0) (ix (l.L.getD k []) 2) (bx (l.L.getD k []) 3) w.I) := wrap_abs (mul_abs (A := 100000) (B := 1000) (by omega) (by omega)) (by decide)
      have w2 : IntKind.i64.wrap (stepLoss a.L b.L d.I w.I (l.L.getD k [])) = stepLoss a.L b.L d.I w.I (l.L.getD k []) := wrap_id (by omega) (by omega)
      have w3 : IntKind.i64.wrap (s.I + stepLoss a.L b.L d.I w.I (l.L.getD k [])) = s.I + stepLoss a.L b.L d.I w.I (l.L.getD k []) := wrap_id (by omega) (by omega)
      have w4 : IntKind.i64.wrap (ix (l.L.getD k []) 1 * ix (c.L.getD (ix (l.L.getD k []) 0).toNat []) 0) = ix (l.L.getD k []) 1 * ix (c.L.getD (ix (l.L.getD k []) 0).toNat []) 0 := wrap_id (by omega) (by omega)
      have w5 : IntKind.i64.wrap (w.I + ix (l.L.getD k []) 1 * ix (c.L.getD (ix (l.L.getD k []) 0).toNat []) 0) = stepWear c.L w.I (l.L.getD k []) := wrap_id (by omega) (by omega)
      have e10 : 0 ≤ stepWear c.L w.I (l.L.getD k []) := by omega
      rw [show l.L.length - k = (l.L.length - (k + 1)) + 1 by omega] at h
      simp only [driveFrom] at h
      simp only [d0, d1, if_true, ix_def, bx_def, Nat.zero_add, show (0 + 1 + 1 : Nat) = 2 from rfl, show (0 + 1 + 1 + 1 : Nat) = 3 from rfl, wrap_succ (show k < 9223372036854775807 by omega)]
      simp only [d2, d3, decide_true, if_true, w0, w1, ← e8, w2, w3, w4, w5]
      by_cases hc : stepWear c.L w.I (l.L.getD k []) > 1000000
      · simp only [hc, if_true] at h
        simp only [hc, decide_true, if_true]
        refine again_ok rfl ?_ ?_
        · refine (need_yes ⟨h1, by simp only [I_i]; omega, by simp only [I_i]; omega, by simp only [I_i, L_l], by simp only [I_i]; omega, by simp only [I_i]; omega, by simp only [I_i]; omega, by simp only [I_i]; omega⟩).trans ?_
          simp only [I_i, L_l, B_b, Int.toNat_natCast, run_leaf]
          exact h
        · show ((l.L.length : Int) - ((k + 1 : Nat) : Int)).toNat < (m.I - i.I).toNat
          omega
      · simp only [hc, if_false] at h
        simp only [hc, decide_false, Bool.false_eq_true, if_false]
        refine again_ok rfl ?_ ?_
        · refine (need_yes ⟨h1, by simp only [I_i]; omega, by simp only [I_i]; omega, by simp only [I_i, L_l], by simp only [I_i]; omega, by simp only [I_i]; omega, by simp only [I_i]; omega, by simp only [I_i]; omega⟩).trans ?_
          simp only [I_i, L_l, B_b, Int.toNat_natCast, run_leaf]
          exact h
        · show ((l.L.length : Int) - ((k + 1 : Nat) : Int)).toNat < (m.I - i.I).toNat
          omega
    · rw [show l.L.length - k = 0 by omega] at h
      simp only [driveFrom, Option.some.injEq] at h
      subst h
      rw [if_neg (by simpa using hlt)]
      exact out_ok rfl
  · cases h
theorem ok65 (n : Nat) : FnOK C (n + 4) 65 (mkF s65 G65) := by
  refine fn_of hC (sp := sp65) (lp := lp65) ⟨ok96 n, trivial⟩ (by kernel_rfl) [3] (by kernel_rfl) (by kernel_rfl) (fun k hk L hL => by simp at hk; subst hk; cases hL; exact ok65_3 n) fun ds r h => ?_
  unfold G65 at h
  split at h
  · rename_i a b c d l w
    obtain ⟨hp, h⟩ := need_some h
    rw [yes_iff] at hp
    rw [← h]
    refine (congrArg T.run (t65 a b c d l w)).trans ?_
    exact need_yes ⟨hp.1, hp.2.1, hp.2.2, rfl, by omega, by omega, by omega, by omega⟩
  · cases h
end Go.Proofs.Ytgoedfonmocafaa

namespace Go.Proofs.Ytgoedfonmocafaa
open Go.Lite
noncomputable section
def lossPre (dry wet wl : List (List D)) (loss : Int) (l : List (List D)) (w : Int) : Prop := smallRows dry ∧ smallRows wet ∧ wl.length < big ∧ lossOk dry wet wl loss l w = true
def G21w (ds : List D) : T (List D) := match ds with
  | [a, b, c, d, l, w] => .need (yes (lossPre a.L b.L c.L d.I l.L w.I)) (.leaf [.i (drive a.L b.L c.L d.I l.L w.I).2.1, .i (drive a.L b.L c.L d.I l.L w.I).1, .i 0])
  | _ => .fail
def G23w (ds : List D) : T (List D) := match ds with
  | [a, b, c, d, l, w] => .need (yes (lossPre a.L b.L c.L d.I l.L w.I)) (.leaf [.b (drive a.L b.L c.L d.I l.L w.I).2.2, .i 0])
  | _ => .fail
end
end Go.Proofs.Ytgoedfonmocafaa

namespace Go.Proofs.Ytgoedfonmocafaa
open Go.Lite

theorem ok21 (n : Nat) : FnOK C (n + 8) 21 (mkF s21 G21) := by
  refine fn_of hC (sp := sp21) (lp := lp21) ⟨ok62 (n + 1), ok63 (n + 2), ok64 (n + 6), ok65 (n + 3), trivial⟩ (by kernel_rfl) [] (by kernel_rfl) rfl (fun k hk => by cases hk) fun ds r h => ?_
  unfold G21 at h
  split at h
  · rename_i a b c d l w
    obtain ⟨hp, h⟩ := need_some h
    rw [yes_iff] at hp
    rw [← h]
    refine (congrArg T.run (t21 a b c d l w)).trans ?_
    rw [need_yes hp]
    have hb : big = 4611686018427387904 := rfl
    simp only [run_ite, run_need, run_leaf, lossOk]
    by_cases c1 : compoundOk a.L b.L c.L d.I = true
    · have hn : fewN (a.L.length : Int) := ⟨by omega, by have := (drive_comp c1).1; omega⟩
      by_cases c2 : loopOk l.L (a.L.length : Int) = true
      · by_cases c3 : within w.I 0 1000000 = true
        · have c4 := Lite.within_iff.1 c3
          have hy := yes_true (p := drivePre a.L b.L c.L d.I l.L ∧ 0 ≤ w.I ∧ w.I ≤ 1000000) ⟨⟨c1, c2⟩, c4.1, c4.2⟩
          simp [c1, c2, c3, hy, yes_true hn]
        · simp [c1, c2, c3, yes_true hn]
      · simp [c1, c2, yes_true hn]
    · simp [c1]
  · cases h
theorem ok23 (n : Nat) : FnOK C (n + 8) 23 (mkF s23 G23) := by
  refine fn_of hC (sp := sp23) (lp := lp23) ⟨ok62 (n + 1), ok63 (n + 2), ok64 (n + 6), ok65 (n + 3), trivial⟩ (by kernel_rfl) [] (by kernel_rfl) rfl (fun k hk => by cases hk) fun ds r h => ?_
  unfold G23 at h
  split at h
  · rename_i a b c d l w
    obtain ⟨hp, h⟩ := need_some h
    rw [yes_iff] at hp
    rw [← h]
    refine (congrArg T.run (t23 a b c d l w)).trans ?_
    rw [need_yes hp]
    have hb : big = 4611686018427387904 := rfl
    simp only [run_ite, run_need, run_leaf, lossOk]
    by_cases c1 : compoundOk a.L b.L c.L d.I = true
    · have hn : fewN (a.L.length : Int) := ⟨by omega, by have := (drive_comp c1).1; omega⟩
      by_cases c2 : loopOk l.L (a.L.length : Int) = true
      · by_cases c3 : within w.I 0 1000000 = true
        · have c4 := Lite.within_iff.1 c3
          have hy := yes_true (p := drivePre a.L b.L c.L d.I l.L ∧ 0 ≤ w.I ∧ w.I ≤ 1000000) ⟨⟨c1, c2⟩, c4.1, c4.2⟩
          simp [c1, c2, c3, hy, yes_true hn]
        · simp [c1, c2, c3, yes_true hn]
      · simp [c1, c2, yes_true hn]
    · simp [c1]
  · cases h
/-- The flag does not matter for the loss and the wear. -/
theorem drive_flag {dry wet wl : List (List D)} {loss : Int} {l : List (List D)} : ∀ (k i : Nat) (w s : Int) (b b' : Bool), (driveFrom dry wet wl loss l i k w s b).1 = (driveFrom dry wet wl loss l i k w s b').1 ∧ (driveFrom dry wet wl loss l i k w s b).2.1 = (driveFrom dry wet wl loss l i k w s b').2.1
  | 0, i, w, s, b, b' => ⟨rfl, rfl⟩
  | k + 1, i, w, s, b, b' => by
    simp only [driveFrom]
    exact drive_flag k _ _ _ _ _
end Go.Proofs.Ytgoedfonmocafaa

namespace Go.Proofs.Ytgoedfonmocafaa
open Go.Lite

theorem mkF_weak {s : Sig} {G G' : List D → T (List D)} (h : ∀ ds r, (G' ds).run = some r → (G ds).run = some r) : ∀ args v hb, (mkF s G' args).run = some (v, hb) → (mkF s G args).run = some (v, hb) := by
  intro args v hb hr
  unfold mkF at hr ⊢
  split
  · rename_i ds hds
    simp only [hds, T.run_map, Option.map_eq_some_iff] at hr ⊢
    obtain ⟨r, h1, h2⟩ := hr
    exact ⟨r, h _ _ h1, h2⟩
  · rename_i hds
    simp only [hds] at hr
    cases hr
theorem ok21w (n : Nat) : FnOK C (n + 8) 21 (mkF s21 G21w) := (ok21 n).mono <| mkF_weak fun ds r h => by
  unfold G21w at h
  split at h
  · obtain ⟨hp, h⟩ := need_some h
    rw [yes_iff] at hp
    rw [← h]
    unfold G21
    rw [need_yes ⟨hp.1, hp.2.1, hp.2.2.1⟩]
    simp only [run_ite, run_leaf, hp.2.2.2, if_true]
  · cases h
theorem ok23w (n : Nat) : FnOK C (n + 8) 23 (mkF s23 G23w) := (ok23 n).mono <| mkF_weak fun ds r h => by
  unfold G23w at h
  split at h
  · obtain ⟨hp, h⟩ := need_some h
    rw [yes_iff] at hp
    rw [← h]
    unfold G23
    rw [need_yes ⟨hp.1, hp.2.1, hp.2.2.1⟩]
    simp only [run_ite, run_leaf, hp.2.2.2, if_true]
  · cases h

/-! ### Drives as folds -/
section
variable (dry wet wl : List (List D)) (loss : Int)
def driveL : List (List D) → Int → Int → Bool → Int × Int × Bool
  | [], w, s, b => (w, s, b)
  | c :: cs, w, s, b => driveL cs (if stepWear wl w c > 1000000 then 1000000 else stepWear wl w c) (s + stepLoss dry wet loss w c) (if stepWear wl w c > 1000000 then false else b)
variable {dry wet wl loss}
theorem driveFrom_L (l : List (List D)) : ∀ (k i : Nat) (w s : Int) (b : Bool), i + k = l.length → driveFrom dry wet wl loss l i k w s b = driveL dry wet wl loss (l.drop i) w s b
  | 0, i, w, s, b, h => by
    rw [List.drop_eq_nil_of_le (by omega)]
    simp only [driveFrom, driveL]
  | k + 1, i, w, s, b, h => by
    have hi : i < l.length := by omega
    rw [List.drop_eq_getElem_cons hi]
    have e : l.getD i [] = l[i] := by simp [List.getD_eq_getElem?_getD, hi]
    simp only [driveFrom, driveL, e]
    exact driveFrom_L l k (i + 1) _ _ _ (by omega)
theorem drive_L (l : List (List D)) (w : Int) : drive dry wet wl loss l w = driveL dry wet wl loss l w 0 true := by
  unfold drive
  rw [driveFrom_L l l.length 0 w 0 true (by omega), List.drop_zero]
theorem driveL_append : ∀ (a b : List (List D)) (w s : Int) (o : Bool), driveL dry wet wl loss (a ++ b) w s o = driveL dry wet wl loss b (driveL dry wet wl loss a w s o).1 (driveL dry wet wl loss a w s o).2.1 (driveL dry wet wl loss a w s o).2.2
  | [], b, w, s, o => rfl
  | c :: a, b, w, s, o => by
    simp only [List.cons_append, driveL]
    exact driveL_append a b _ _ _
theorem driveL_sum : ∀ (a : List (List D)) (w s : Int) (o : Bool), (driveL dry wet wl loss a w s o).1 = (driveL dry wet wl loss a w 0 true).1 ∧ (driveL dry wet wl loss a w s o).2.1 = s + (driveL dry wet wl loss a w 0 true).2.1 ∧ (driveL dry wet wl loss a w s o).2.2 = (o && (driveL dry wet wl loss a w 0 true).2.2)
  | [], w, s, o => by simp [driveL]
  | c :: a, w, s, o => by
    simp only [driveL]
    obtain ⟨h1, h2, h3⟩ := driveL_sum a (if stepWear wl w c > 1000000 then 1000000 else stepWear wl w c) (s + stepLoss dry wet loss w c) (if stepWear wl w c > 1000000 then false else o)
    obtain ⟨h4, h5, h6⟩ := driveL_sum a (if stepWear wl w c > 1000000 then 1000000 else stepWear wl w c) (0 + stepLoss dry wet loss w c) (if stepWear wl w c > 1000000 then false else true)
    refine ⟨h1.trans h4.symm, by rw [h2, h5]; omega, ?_⟩
    rw [h3, h6]
    split <;> simp
/-- What a stretch must be that more wear loses more. -/
def Fine (dry wet wl : List (List D)) (loss : Int) (c : List D) : Prop := ∀ w w', 0 ≤ w → w ≤ w' → w' ≤ 1000000 → stepLoss dry wet loss w c ≤ stepLoss dry wet loss w' c ∧ 0 ≤ stepWear wl w c - w ∧ stepWear wl w' c - w' = stepWear wl w c - w
theorem driveL_mono : ∀ (a : List (List D)) (w w' s s' : Int) (o o' : Bool), (∀ c ∈ a, Fine dry wet wl loss c) → 0 ≤ w → w ≤ w' → w' ≤ 1000000 → s ≤ s' → (o' = true → o = true) →
    (driveL dry wet wl loss a w s o).2.1 ≤ (driveL dry wet wl loss a w' s' o').2.1 ∧ ((driveL dry wet wl loss a w' s' o').2.2 = true → (driveL dry wet wl loss a w s o).2.2 = true)
  | [], w, w', s, s', o, o', _, _, _, _, hs, ho => ⟨hs, ho⟩
  | c :: a, w, w', s, s', o, o', hf, h0, h1, h2, hs, ho => by
    obtain ⟨f1, f2, f3⟩ := hf c (by simp) w w' h0 h1 h2
    simp only [driveL]
    refine driveL_mono a _ _ _ _ _ _ (fun x hx => hf x (by simp [hx])) ?_ ?_ ?_ (by omega) ?_
    · split <;> omega
    · split <;> split <;> omega
    · split <;> omega
    · split
      · intro h; cases h
      · intro h
        rw [if_neg (by omega)]
        exact ho h
theorem driveL_range : ∀ (a : List (List D)) (w s : Int) (o : Bool), (∀ c ∈ a, Fine dry wet wl loss c) → 0 ≤ w → w ≤ 1000000 → 0 ≤ (driveL dry wet wl loss a w s o).1 ∧ (driveL dry wet wl loss a w s o).1 ≤ 1000000
  | [], w, s, o, _, h0, h1 => ⟨h0, h1⟩
  | c :: a, w, s, o, hf, h0, h1 => by
    obtain ⟨f1, f2, f3⟩ := hf c (by simp) w w h0 (Int.le_refl _) h1
    simp only [driveL]
    exact driveL_range a _ _ _ (fun x hx => hf x (by simp [hx])) (by split <;> omega) (by split <;> omega)
theorem driveL_bound : ∀ (a : List (List D)) (w s : Int) (o : Bool), (∀ c ∈ a, Fine dry wet wl loss c) → (∀ c ∈ a, ∀ w, 0 ≤ w → w ≤ 1000000 → 0 ≤ stepLoss dry wet loss w c ∧ stepLoss dry wet loss w c ≤ 100000) → 0 ≤ w → w ≤ 1000000 →
    s ≤ (driveL dry wet wl loss a w s o).2.1 ∧ (driveL dry wet wl loss a w s o).2.1 ≤ s + 100000 * a.length
  | [], w, s, o, _, _, h0, h1 => by simp [driveL]
  | c :: a, w, s, o, hf, hb, h0, h1 => by
    obtain ⟨f1, f2, f3⟩ := hf c (by simp) w w h0 (Int.le_refl _) h1
    have h2 := hb c (by simp) w h0 h1
    have h3 := driveL_bound a (if stepWear wl w c > 1000000 then 1000000 else stepWear wl w c) (s + stepLoss dry wet loss w c) (if stepWear wl w c > 1000000 then false else o) (fun x hx => hf x (by simp [hx])) (fun x hx => hb x (by simp [hx])) (by split <;> omega) (by split <;> omega)
    simp only [driveL, List.length_cons]
    omega
end
theorem gripV_ant {g d h h' : Int} (hg : 0 ≤ g) (hd : 0 ≤ d) (hh : 0 ≤ h) (hi : h ≤ h') : gripV g d h' ≤ gripV g d h := by
  unfold gripV
  have h0 : 0 ≤ g * d := Int.mul_nonneg hg hd
  have h1 : 0 ≤ g * d * h := Int.mul_nonneg h0 hh
  have h2 : g * d * h ≤ g * d * h' := Int.mul_le_mul_of_nonneg_left hi h0
  rw [Int.tdiv_eq_ediv_of_nonneg h1, Int.tdiv_eq_ediv_of_nonneg (by omega)]
  omega
theorem fine_of {dry wet wl : List (List D)} {loss : Int} {l : List (List D)} (hp : drivePre dry wet wl loss l) : ∀ c ∈ l, Fine dry wet wl loss c ∧ ∀ w, 0 ≤ w → w ≤ 1000000 → 0 ≤ stepLoss dry wet loss w c ∧ stepLoss dry wet loss w c ≤ 100000 := by
  intro c hc
  obtain ⟨j, hj, rfl⟩ := List.getElem_of_mem hc
  have e : l[j] = l.getD j [] := by simp [List.getD_eq_getElem?_getD, hj]
  rw [e]
  refine ⟨fun w w' h0 h1 h2 => ?_, fun w h0 h1 => (step_of hp ⟨h0, h1⟩ hj).2.2.2.2.2.2.2.1⟩
  obtain ⟨p1, p2, p3, p4, p5, p6, p7, p8, p9⟩ := step_of hp (w := w) ⟨h0, by omega⟩ hj
  have q7 := (step_of hp (w := w') ⟨by omega, h2⟩ hj).2.2.2.2.2.2.1
  refine ⟨?_, ?_, ?_⟩
  · unfold stepLoss
    have ha : gripC dry wet loss (ix (l.getD j []) 0) (ix (l.getD j []) 2) (bx (l.getD j []) 3) w' ≤ gripC dry wet loss (ix (l.getD j []) 0) (ix (l.getD j []) 2) (bx (l.getD j []) 3) w := gripV_ant (freshV_range p1.2.2.2).1 p3.1 h0 h1
    generalize gripC dry wet loss (ix (l.getD j []) 0) (ix (l.getD j []) 2) (bx (l.getD j []) 3) w' = g' at *
    generalize gripC dry wet loss (ix (l.getD j []) 0) (ix (l.getD j []) 2) (bx (l.getD j []) 3) w = g at *
    have m1 : 0 ≤ ix (l.getD j []) 1 * (1000 - g) := Int.mul_nonneg p5.1 (by omega)
    have m2 : ix (l.getD j []) 1 * (1000 - g) ≤ ix (l.getD j []) 1 * (1000 - g') := Int.mul_le_mul_of_nonneg_left (by omega) p5.1
    rw [Int.tdiv_eq_ediv_of_nonneg m1, Int.tdiv_eq_ediv_of_nonneg (by omega)]
    omega
  · unfold stepWear; omega
  · unfold stepWear; omega
end Go.Proofs.Ytgoedfonmocafaa

namespace Go.Proofs.Ytgoedfonmocafaa
open Go.Lite

theorem ok39_4 (n : Nat) : LoopSim C (n + 3) 39 (loopOf C.P 39 4) (mkL l39_4 G39_4) := by
  refine loop_of hC (sp := sp39) (lp := lp39) ⟨ok88 (n + 1 + 1), ok89 (n + 1), ok19 (n + 1), trivial⟩ [] (by kernel_rfl) rfl (fun k hk => by cases hk) (by kernel_rfl) (fun ds => (((ds.getD 1 default).L.length : Int) - (ds.getD 0 default).I).toNat) fun ds r h => ?_
  unfold G39_4 at h
  split at h
  · rename_i i p c j
    obtain ⟨hp, h⟩ := need_some h
    rw [yes_iff] at hp
    obtain ⟨h1, h2, h3⟩ := hp
    refine ⟨by rw [fuelC]; simp; omega, ?_⟩
    rw [show roundT C (mkTab sp39 lp39) 39 (loopOf C.P 39 4) l39_4 [i, p, c, j] = _ from t39_4 i p c j]
    obtain ⟨k, hk⟩ : ∃ k : Nat, i.I = k := ⟨i.I.toNat, by omega⟩
    simp only [run_ite, run_need, run_leaf, hk, Int.toNat_natCast] at h h3 ⊢
    refine all_loop (p := pieceAt p.L) (i := k) (len := p.L.length) [D.i (k + 1 : Nat), D.l p.L, D.l c.L, D.l j.L] h ?_ ?_
    · simp only [pieceAt, ix_def, wrap_succ (show k < 9223372036854775807 by omega)]
      grind
    · intro hlt hp hh
      refine ⟨Eq.trans (need_yes (p := _) (t := _) ?_) hh, ?_⟩
      · simp only [I_i, L_l]
        exact ⟨h1, by omega, by omega⟩
      · show ((p.L.length : Int) - ((k + 1 : Nat) : Int)).toNat < ((p.L.length : Int) - i.I).toNat
        omega
  · cases h
theorem ok39_10 (n : Nat) : LoopSim C (n + 3) 39 (loopOf C.P 39 10) (mkL l39_10 G39_10) := by
  refine loop_of hC (sp := sp39) (lp := lp39) ⟨ok88 (n + 1 + 1), ok89 (n + 1), ok19 (n + 1), trivial⟩ [] (by kernel_rfl) rfl (fun k hk => by cases hk) (by kernel_rfl) (fun ds => (((ds.getD 3 default).L.length : Int) - (ds.getD 1 default).I).toNat) fun ds r h => ?_
  unfold G39_10 at h
  split at h
  · rename_i m i p c j
    obtain ⟨hp, h⟩ := need_some h
    rw [yes_iff] at hp
    obtain ⟨h1, h2, h3⟩ := hp
    refine ⟨by rw [fuelC]; simp; omega, ?_⟩
    rw [show roundT C (mkTab sp39 lp39) 39 (loopOf C.P 39 10) l39_10 [m, i, p, c, j] = _ from t39_10 m i p c j]
    obtain ⟨k, hk⟩ : ∃ k : Nat, i.I = k := ⟨i.I.toNat, by omega⟩
    simp only [run_ite, run_need, run_leaf, hk, Int.toNat_natCast] at h h3 ⊢
    refine all_loop (p := crestAt m.I c.L) (i := k) (len := c.L.length) [D.i m.I, D.i (k + 1 : Nat), D.l p.L, D.l c.L, D.l j.L] h ?_ ?_
    · simp only [crestAt, riseAt, ix_def, Nat.zero_add, wrap_succ (show k < 9223372036854775807 by omega), wrap_pred (show k < 9223372036854775807 by omega), toNat_pred]
      grind
    · intro hlt hp hh
      refine ⟨Eq.trans (need_yes (p := _) (t := _) ?_) hh, ?_⟩
      · simp only [I_i, L_l]
        exact ⟨h1, by omega, by omega⟩
      · show ((c.L.length : Int) - ((k + 1 : Nat) : Int)).toNat < ((c.L.length : Int) - i.I).toNat
        omega
  · cases h
theorem ok39_16 (n : Nat) : LoopSim C (n + 3) 39 (loopOf C.P 39 16) (mkL l39_16 G39_16) := by
  refine loop_of hC (sp := sp39) (lp := lp39) ⟨ok88 (n + 1 + 1), ok89 (n + 1), ok19 (n + 1), trivial⟩ [] (by kernel_rfl) rfl (fun k hk => by cases hk) (by kernel_rfl) (fun ds => (((ds.getD 4 default).L.length : Int) - (ds.getD 1 default).I).toNat) fun ds r h => ?_
  unfold G39_16 at h
  split at h
  · rename_i m i p c j
    obtain ⟨hp, h⟩ := need_some h
    rw [yes_iff] at hp
    obtain ⟨h1, h2, h3⟩ := hp
    refine ⟨by rw [fuelC]; simp; omega, ?_⟩
    rw [show roundT C (mkTab sp39 lp39) 39 (loopOf C.P 39 16) l39_16 [m, i, p, c, j] = _ from t39_16 m i p c j]
    obtain ⟨k, hk⟩ : ∃ k : Nat, i.I = k := ⟨i.I.toNat, by omega⟩
    simp only [run_ite, run_need, run_leaf, hk, Int.toNat_natCast] at h h3 ⊢
    refine all_loop (p := juncAt m.I j.L) (i := k) (len := j.L.length) [D.i m.I, D.i (k + 1 : Nat), D.l p.L, D.l c.L, D.l j.L] h ?_ ?_
    · simp only [juncAt, riseAt, ix_def, Nat.zero_add, wrap_succ (show k < 9223372036854775807 by omega), wrap_pred (show k < 9223372036854775807 by omega), toNat_pred]
      grind
    · intro hlt hp hh
      refine ⟨Eq.trans (need_yes (p := _) (t := _) ?_) hh, ?_⟩
      · simp only [I_i, L_l]
        exact ⟨h1, by omega, by omega⟩
      · show ((j.L.length : Int) - ((k + 1 : Nat) : Int)).toNat < ((j.L.length : Int) - i.I).toNat
        omega
  · cases h
theorem ok51_14 (n : Nat) : LoopSim C (n + 3) 51 (loopOf C.P 51 14) (mkL l51_14 G51_14) := by
  refine loop_of hC (sp := sp51) (lp := lp51) ⟨ok55 (n + 1 + 1), ok97 (n + 1), trivial⟩ [] (by kernel_rfl) rfl (fun k hk => by cases hk) (by kernel_rfl) (fun ds => ((ds.getD 2 default).I - (ds.getD 3 default).I).toNat) fun ds r h => ?_
  unfold G51_14 at h
  split at h
  · rename_i x q m i p c j
    obtain ⟨hp, h⟩ := need_some h
    rw [yes_iff] at hp
    obtain ⟨h1, h2, h3, h4, h5⟩ := hp
    refine ⟨by rw [fuelC]; simp; omega, ?_⟩
    rw [show roundT C (mkTab sp51 lp51) 51 (loopOf C.P 51 14) l51_14 [x, q, m, i, p, c, j] = _ from t51_14 x q m i p c j]
    obtain ⟨k, hk⟩ : ∃ k : Nat, i.I = k := ⟨i.I.toNat, by omega⟩
    simp only [run_ite, run_need, run_leaf, hk, h1, h2, Int.toNat_natCast] at h h4 h5 ⊢
    refine all_loop (p := crestAt x.I c.L) (i := k) (len := c.L.length) [D.i x.I, D.l c.L, D.i c.L.length, D.i (k + 1 : Nat), D.l p.L, D.l c.L, D.l j.L] h ?_ ?_
    · simp only [crestAt, riseAt, ix_def, Nat.zero_add, wrap_succ (show k < 9223372036854775807 by omega), wrap_pred (show k < 9223372036854775807 by omega), toNat_pred]
      grind
    · intro hlt hp hh
      refine ⟨Eq.trans (need_yes (p := _) (t := _) ?_) hh, ?_⟩
      · simp only [I_i, L_l]
        exact ⟨trivial, trivial, by omega, by omega, h5⟩
      · show ((c.L.length : Int) - ((k + 1 : Nat) : Int)).toNat < (m.I - i.I).toNat
        omega
  · cases h
theorem ok51_20 (n : Nat) : LoopSim C (n + 3) 51 (loopOf C.P 51 20) (mkL l51_20 G51_20) := by
  refine loop_of hC (sp := sp51) (lp := lp51) ⟨ok55 (n + 1 + 1), ok97 (n + 1), trivial⟩ [] (by kernel_rfl) rfl (fun k hk => by cases hk) (by kernel_rfl) (fun ds => ((ds.getD 2 default).I - (ds.getD 3 default).I).toNat) fun ds r h => ?_
  unfold G51_20 at h
  split at h
  · rename_i x q m i p c j
    obtain ⟨hp, h⟩ := need_some h
    rw [yes_iff] at hp
    obtain ⟨h1, h2, h3, h4, h5⟩ := hp
    refine ⟨by rw [fuelC]; simp; omega, ?_⟩
    rw [show roundT C (mkTab sp51 lp51) 51 (loopOf C.P 51 20) l51_20 [x, q, m, i, p, c, j] = _ from t51_20 x q m i p c j]
    obtain ⟨k, hk⟩ : ∃ k : Nat, i.I = k := ⟨i.I.toNat, by omega⟩
    simp only [run_ite, run_need, run_leaf, hk, h1, h2, Int.toNat_natCast] at h h4 h5 ⊢
    refine all_loop (p := juncAt x.I j.L) (i := k) (len := j.L.length) [D.i x.I, D.l j.L, D.i j.L.length, D.i (k + 1 : Nat), D.l p.L, D.l c.L, D.l j.L] h ?_ ?_
    · simp only [juncAt, riseAt, ix_def, Nat.zero_add, wrap_succ (show k < 9223372036854775807 by omega), wrap_pred (show k < 9223372036854775807 by omega), toNat_pred]
      grind
    · intro hlt hp hh
      refine ⟨Eq.trans (need_yes (p := _) (t := _) ?_) hh, ?_⟩
      · simp only [I_i, L_l]
        exact ⟨trivial, trivial, by omega, by omega, h5⟩
      · show ((j.L.length : Int) - ((k + 1 : Nat) : Int)).toNat < (m.I - i.I).toNat
        omega
  · cases h
theorem ok39 (n : Nat) : FnOK C (n + 4) 39 (mkF s39 G39) := by
  refine fn_of hC (sp := sp39) (lp := lp39) ⟨ok88 (n + 1 + 1), ok89 (n + 1), ok19 (n + 1), trivial⟩ (by kernel_rfl) [4, 10, 16] (by kernel_rfl) (by kernel_rfl) (fun k hk L hL => by simp at hk; rcases hk with hk | hk | hk <;> subst hk <;> cases hL; exact ok39_4 n; exact ok39_10 n; exact ok39_16 n) fun ds r h => ?_
  unfold G39 at h
  split at h
  · rename_i p c j
    rw [← h]
    refine (congrArg T.run (t39 p c j)).trans ?_
    simp only [run_ite, run_need, run_leaf, yes_iff, roadOk, sizesOk, Int.toNat_zero, Nat.sub_zero]
    by_cases a1 : within (p.L.length : Int) 1 2000 = true
    case neg => simp [a1]
    have a0 := Lite.within_iff.1 a1
    by_cases a2 : c.L.length ≤ 1000
    case neg => simp [a1, a2, show (c.L.length : Int) > 1000 by omega]
    by_cases a3 : j.L.length ≤ 200
    case neg => simp [a1, a2, a3, show ¬ (c.L.length : Int) > 1000 by omega, show (j.L.length : Int) > 200 by omega]
    by_cases a4 : allFrom (pieceAt p.L) 0 p.L.length = true
    case neg => simp [a1, a2, a3, a4, show ¬ (c.L.length : Int) > 1000 by omega, show ¬ (j.L.length : Int) > 200 by omega, show p.L.length ≤ 2000 by omega]
    simp [a1, a2, a3, a4, show ¬ (c.L.length : Int) > 1000 by omega, show ¬ (j.L.length : Int) > 200 by omega, show p.L.length ≤ 2000 by omega]
    cases allFrom (crestAt (lenR p.L) c.L) 0 c.L.length <;> cases allFrom (juncAt (lenR p.L) j.L) 0 j.L.length <;> simp
  · cases h
end Go.Proofs.Ytgoedfonmocafaa

namespace Go.Proofs.Ytgoedfonmocafaa
open Go.Lite

theorem ok51_5 (n : Nat) : LoopSim C (n + 3) 51 (loopOf C.P 51 5) (mkL l51_5 G51_5) := by
  refine loop_of hC (sp := sp51) (lp := lp51) ⟨ok55 (n + 1 + 1), ok97 (n + 1), trivial⟩ [] (by kernel_rfl) rfl (fun k hk => by cases hk) (by kernel_rfl) (fun ds => ((ds.getD 2 default).I - (ds.getD 3 default).I).toNat) fun ds r h => ?_
  unfold G51_5 at h
  split at h
  · rename_i x q m i p c j
    obtain ⟨hp, h⟩ := need_some h
    rw [yes_iff] at hp
    obtain ⟨h1, h2, h3, h4, h5, h6, h7⟩ := hp
    refine ⟨by rw [fuelC]; simp; omega, ?_⟩
    rw [show roundT C (mkTab sp51 lp51) 51 (loopOf C.P 51 5) l51_5 [x, q, m, i, p, c, j] = _ from t51_5 x q m i p c j]
    obtain ⟨k, hk⟩ : ∃ k : Nat, i.I = k := ⟨i.I.toNat, by omega⟩
    simp only [run_ite, run_need, run_leaf, hk, h1, h2, Int.toNat_natCast] at h h4 h5 h7 ⊢
    by_cases hlt : (k : Int) < p.L.length
    · rw [show p.L.length - k = (p.L.length - (k + 1)) + 1 by omega] at h
      by_cases hp : pieceAt p.L k = true
      · have hb := lenFrom_bound (l := p.L) 1 k fun y a b => by rw [show y = k by omega]; exact hp
        simp only [lenFrom] at hb
        have w0 : IntKind.i64.wrap (x.I + ix (p.L.getD k []) 0) = x.I + ix (p.L.getD k []) 0 := wrap_id (by omega) (by omega)
        have w1 : IntKind.i64.wrap ((k : Int) + 1) = ((k + 1 : Nat) : Int) := wrap_succ (by omega)
        have hp' := hp
        simp only [pieceAt] at hp'
        simp only [allFrom, hp, Bool.true_and, lenFrom] at h
        refine again_ok (ds' := [D.i (x.I + ix (p.L.getD k []) 0), D.l p.L, D.i p.L.length, D.i (k + 1 : Nat), D.l p.L, D.l c.L, D.l j.L]) ?_ ?_ ?_
        · simp only [ix_def, Nat.zero_add, Nat.reduceAdd, hlt, decide_true, if_true, hp', Bool.not_true, Bool.false_eq_true, if_false, w0, w1, show (0 : Int) ≤ (k : Int) from by omega, and_self]
        · refine (need_yes ⟨by simp only [L_l], by simp only [I_i, L_l], by simp only [I_i]; omega, by simp only [I_i]; omega, by simp only [I_i]; omega, by simp only [I_i]; omega, by simp only [I_i]; omega⟩).trans ?_
          rw [← h]
          simp only [run_ite, run_leaf, I_i, L_l, Int.toNat_natCast, Int.add_assoc]
        · show ((p.L.length : Int) - ((k + 1 : Nat) : Int)).toNat < (m.I - i.I).toNat
          omega
      · refine out_ok ?_
        have hp' := hp
        simp only [pieceAt] at hp'
        simp only [allFrom, hp, Bool.false_and, Bool.false_eq_true, if_false, Option.some.injEq] at h
        simp only [ix_def, Nat.zero_add, Nat.reduceAdd, hlt, decide_true, if_true, hp', Bool.not_false, show (0 : Int) ≤ (k : Int) from by omega, and_self, ← h]
    · refine out_ok ?_
      rw [show p.L.length - k = 0 by omega] at h
      simp only [allFrom, lenFrom, Int.add_zero, if_true, Option.some.injEq] at h
      simp only [hlt, decide_false, Bool.false_eq_true, if_false, ← h]
  · cases h
theorem ok51 (n : Nat) : FnOK C (n + 4) 51 (mkF s51 G51) := by
  refine fn_of hC (sp := sp51) (lp := lp51) ⟨ok55 (n + 1 + 1), ok97 (n + 1), trivial⟩ (by kernel_rfl) [5, 14, 20] (by kernel_rfl) (by kernel_rfl) (fun k hk L hL => by simp at hk; rcases hk with hk | hk | hk <;> subst hk <;> cases hL; exact ok51_5 n; exact ok51_14 n; exact ok51_20 n) fun ds r h => ?_
  unfold G51 at h
  split at h
  · rename_i p c j
    rw [← h]
    refine (congrArg T.run (t51 p c j)).trans ?_
    simp only [run_ite, run_need, run_leaf, yes_iff, roadOk, sizesOk, Int.toNat_zero, Nat.sub_zero, Int.zero_add]
    by_cases a1 : within (p.L.length : Int) 1 2000 = true
    case neg => simp [a1]
    have a0 := Lite.within_iff.1 a1
    by_cases a2 : c.L.length ≤ 1000
    case neg => simp [a1, a2, show (c.L.length : Int) > 1000 by omega]
    by_cases a3 : j.L.length ≤ 200
    case neg => simp [a1, a2, a3, show ¬ (c.L.length : Int) > 1000 by omega, show (j.L.length : Int) > 200 by omega]
    by_cases a4 : allFrom (pieceAt p.L) 0 p.L.length = true
    case neg => simp [a1, a2, a3, a4, show ¬ (c.L.length : Int) > 1000 by omega, show ¬ (j.L.length : Int) > 200 by omega, show (p.L.length : Int) ≤ 2000 by omega]
    by_cases a5 : lenR p.L ≤ 100000
    case neg => simp [a1, a2, a3, a4, a5, show lenFrom p.L 0 p.L.length = lenR p.L from rfl, show ¬ (c.L.length : Int) > 1000 by omega, show ¬ (j.L.length : Int) > 200 by omega, show (p.L.length : Int) ≤ 2000 by omega, show lenR p.L > 100000 by omega]
    simp [a1, a2, a3, a4, a5, show lenFrom p.L 0 p.L.length = lenR p.L from rfl, show ¬ (c.L.length : Int) > 1000 by omega, show ¬ (j.L.length : Int) > 200 by omega, show (p.L.length : Int) ≤ 2000 by omega, show ¬ lenR p.L > 100000 by omega, show (c.L.length : Int) ≤ 1000 by omega, show (j.L.length : Int) ≤ 200 by omega]
    cases allFrom (crestAt (lenR p.L) c.L) 0 c.L.length <;> cases allFrom (juncAt (lenR p.L) j.L) 0 j.L.length <;> simp
  · cases h
end Go.Proofs.Ytgoedfonmocafaa
