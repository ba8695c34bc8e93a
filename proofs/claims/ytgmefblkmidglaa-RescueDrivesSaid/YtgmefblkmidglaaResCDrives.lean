/-
  Shapes of arguments, results and loops. Written by program.
  The law of drives: what its loops look at.
  Tables. Written by program.
  What the rounds and the functions come to. Written by program.
  Ways, plainly: each hop can be taken, and the last one ends at the place in time; a road more makes nothing later.
  The loops of the law of drives compute what their words say.
  The statement of RescueDrives follows once the law is reckoned to be true for arguments of the right shapes.
  RescueDrives: the law holds for every input.
-/
import Derived.Test.YtgmefblkmidglaaResGD
import Derived.Test.YtgmefblkmidglaaResGC
import Derived.Test.YtgmefblkmidglaaResGP
import Derived.Test.YtgmefblkmidglaaOver
namespace Go.Proofs.Ytgmefblkmidglaa
open Go.Lite
def s5 : Sig := ⟨[.agg [.k (.int .i64), .k (.ro [.int .i64, .int .i64, .int .i64, .ro [.int .i64, .int .i64]])], .k (.int .i64), .k (.int .i64), .k (.int .i64), .k (.int .i64), .agg [.k (.int .i64), .k (.int .i64), .k (.int .i64), .k (.ro [.int .i64, .int .i64])]], [(.k .bool, [])]⟩
def l5_9 : LSig := mkLS [1, 2, 3, 6, 11, 13, 14, 15, 16, 18, 20] [(300, [(1, .k (.int .i64)), (2, .k (.int .i64)), (3, .k (.int .i64)), (6, .ptr 0 2 0 0), (11, .ptr 1 4 0 0), (13, .nils), (14, .k (.int .i64)), (15, .k (.int .i64)), (16, .sl 2 1), (18, .sl 3 1), (20, .k (.int .i64))], [.box [.k (.int .i64), .k (.ro [.int .i64, .int .i64, .int .i64, .ro [.int .i64, .int .i64]])], .box [.k (.int .i64), .k (.int .i64), .k (.int .i64), .k (.ro [.int .i64, .int .i64])], .row [.int .i64], .row [.int .i64]]), (300, [(1, .k (.int .i64)), (2, .k (.int .i64)), (3, .k (.int .i64)), (6, .ptr 0 2 0 0), (11, .ptr 1 4 0 0), (13, .sl 2 2), (14, .k (.int .i64)), (15, .k (.int .i64)), (16, .sl 3 1), (18, .sl 4 1), (20, .k (.int .i64))], [.box [.k (.int .i64), .k (.ro [.int .i64, .int .i64, .int .i64, .ro [.int .i64, .int .i64]])], .box [.k (.int .i64), .k (.int .i64), .k (.int .i64), .k (.ro [.int .i64, .int .i64])], .row [.int .i64, .int .i64], .row [.int .i64], .row [.int .i64]])] [(.ret, [12], [(300, [(12, .k .bool)], [])]), (.exit 0, [1, 2, 3, 6, 11, 13, 14, 15, 16], [(300, [(1, .k (.int .i64)), (2, .k (.int .i64)), (3, .k (.int .i64)), (6, .ptr 0 2 0 0), (11, .ptr 1 4 0 0), (13, .nils), (14, .k (.int .i64)), (15, .k (.int .i64)), (16, .sl 2 1)], [.box [.k (.int .i64), .k (.ro [.int .i64, .int .i64, .int .i64, .ro [.int .i64, .int .i64]])], .box [.k (.int .i64), .k (.int .i64), .k (.int .i64), .k (.ro [.int .i64, .int .i64])], .row [.int .i64]]), (300, [(1, .k (.int .i64)), (2, .k (.int .i64)), (3, .k (.int .i64)), (6, .ptr 0 2 0 0), (11, .ptr 1 4 0 0), (13, .sl 2 2), (14, .k (.int .i64)), (15, .k (.int .i64)), (16, .sl 3 1)], [.box [.k (.int .i64), .k (.ro [.int .i64, .int .i64, .int .i64, .ro [.int .i64, .int .i64]])], .box [.k (.int .i64), .k (.int .i64), .k (.int .i64), .k (.ro [.int .i64, .int .i64])], .row [.int .i64, .int .i64], .row [.int .i64]])])]
def l5_20 : LSig := mkLS [1, 2, 3, 6, 13, 14, 15, 16, 22, 24] [(300, [(1, .k (.int .i64)), (2, .k (.int .i64)), (3, .k (.int .i64)), (6, .ptr 0 2 0 0), (13, .nils), (14, .k (.int .i64)), (15, .k (.int .i64)), (16, .sl 1 1), (22, .sl 2 1), (24, .k (.int .i64))], [.box [.k (.int .i64), .k (.ro [.int .i64, .int .i64, .int .i64, .ro [.int .i64, .int .i64]])], .row [.int .i64], .row [.int .i64]]), (300, [(1, .k (.int .i64)), (2, .k (.int .i64)), (3, .k (.int .i64)), (6, .ptr 0 2 0 0), (13, .sl 1 2), (14, .k (.int .i64)), (15, .k (.int .i64)), (16, .sl 2 1), (22, .sl 3 1), (24, .k (.int .i64))], [.box [.k (.int .i64), .k (.ro [.int .i64, .int .i64, .int .i64, .ro [.int .i64, .int .i64]])], .row [.int .i64, .int .i64], .row [.int .i64], .row [.int .i64]])] [(.ret, [12], [(300, [(12, .k .bool)], [])]), (.exit 2, [1, 2, 3, 6, 13, 14, 15, 16], [(300, [(1, .k (.int .i64)), (2, .k (.int .i64)), (3, .k (.int .i64)), (6, .ptr 0 2 0 0), (13, .nils), (14, .k (.int .i64)), (15, .k (.int .i64)), (16, .sl 1 1)], [.box [.k (.int .i64), .k (.ro [.int .i64, .int .i64, .int .i64, .ro [.int .i64, .int .i64]])], .row [.int .i64]]), (300, [(1, .k (.int .i64)), (2, .k (.int .i64)), (3, .k (.int .i64)), (6, .ptr 0 2 0 0), (13, .sl 1 2), (14, .k (.int .i64)), (15, .k (.int .i64)), (16, .sl 2 1)], [.box [.k (.int .i64), .k (.ro [.int .i64, .int .i64, .int .i64, .ro [.int .i64, .int .i64]])], .row [.int .i64, .int .i64], .row [.int .i64]])])]
def l5_28 : LSig := mkLS [3, 6, 13, 14, 16, 25, 26, 27] [(300, [(3, .k (.int .i64)), (6, .ptr 0 2 0 0), (13, .nils), (14, .k (.int .i64)), (16, .sl 1 1), (25, .k (.int .i64)), (26, .k (.int .i64)), (27, .k (.int .i64))], [.box [.k (.int .i64), .k (.ro [.int .i64, .int .i64, .int .i64, .ro [.int .i64, .int .i64]])], .row [.int .i64]]), (300, [(3, .k (.int .i64)), (6, .ptr 0 2 0 0), (13, .sl 1 2), (14, .k (.int .i64)), (16, .sl 2 1), (25, .k (.int .i64)), (26, .k (.int .i64)), (27, .k (.int .i64))], [.box [.k (.int .i64), .k (.ro [.int .i64, .int .i64, .int .i64, .ro [.int .i64, .int .i64]])], .row [.int .i64, .int .i64], .row [.int .i64]])] [(.exit 4, [3, 14, 16, 25, 26], [(300, [(3, .k (.int .i64)), (14, .k (.int .i64)), (16, .sl 0 1), (25, .k (.int .i64)), (26, .k (.int .i64))], [.row [.int .i64]])]), (.ret, [12], [(300, [(12, .k .bool)], [])])]
end Go.Proofs.Ytgmefblkmidglaa

namespace Go.Proofs.Ytgmefblkmidglaa
open Go.Lite
noncomputable section
def laterB (a b : List (List D)) (i : Nat) : Bool := decide ((rg a i < 0 ↔ rg b i < 0) ∧ rg a i ≤ rg b i)
def moreB (a c : List (List D)) (i : Nat) : Bool := decide (rg a i < 0 ∨ 0 ≤ rg c i ∧ rg c i ≤ rg a i)
/-- A hop can be taken. -/
def hopB (r : List (List D)) (c : List D) (v t : Int) : Bool := decide ((0 ≤ ix c 0 ∧ ix c 0 < r.length) ∧ ix (r.getD (ix c 0).toNat []) 0 = v ∧ t ≤ ix c 1 ∧ entW (r.getD (ix c 0).toNat []) (ix c 1) = ix c 1)
def driveF (r w : List (List D)) : Nat → Nat → Int → Int → Bool × Int × Int
  | _, 0, v, t => (true, v, t)
  | i, k + 1, v, t => if hopB r (w.getD i []) v t then driveF r w (i + 1) k (ix (r.getD (ix (w.getD i []) 0).toNat []) 1) (ix (w.getD i []) 1 + ix (r.getD (ix (w.getD i []) 0).toNat []) 2) else (false, 0, 0)
def okW (w : List (List D)) : Prop := w.length ≤ 1000 ∧ ∀ i, 0 ≤ ix (w.getD i []) 1 ∧ ix (w.getD i []) 1 ≤ 20000000
/-- The way as a law looks at it. -/
def codeX (n : Int) (r : List (List D)) (v t to : Int) : Int := if bestF n r v t to < 0 then 5 else 0
def timeX (n : Int) (r : List (List D)) (v t to : Int) : Int := if bestF n r v t to < 0 then 0 else bestF n r v t to
def wayX (n : Int) (r : List (List D)) (v t to : Int) : List (List D) := if bestF n r v t to < 0 then [] else progW n r v t to
def G23x (ds : List D) : T (List D) := match ds with
  | [n, r, v, t, to] => .need (yes ((netB n.I r.L && nodeB n.I v.I t.I && nodeB n.I to.I 0) = true))
      (.ite (wayX n.I r.L v.I t.I to.I).isEmpty (.leaf [.i 0, .i (timeX n.I r.L v.I t.I to.I), .i (codeX n.I r.L v.I t.I to.I)])
        (.leaf [.i 1, .i (wayX n.I r.L v.I t.I to.I).length, .i (timeX n.I r.L v.I t.I to.I), .i (codeX n.I r.L v.I t.I to.I), .l (wayX n.I r.L v.I t.I to.I)]))
  | _ => .fail
def G17x (ds : List D) : T (List D) := match ds with
  | [n, r, v, t] => .need (yes ((netB n.I r.L && nodeB n.I v.I t.I) = true)) (.leaf [.i 1, .i n.I, .i 0, .l (arrF n.I r.L v.I t.I)])
  | _ => .fail
def G5_9 (ds : List D) : T (Ex × List D) := match ds with
  | [j, v, s, to, t, e, ma, mb, i, n, r, x1, x2, x3, xc, a, b] => .need (yes (j.I = 0 ∧ (1 ≤ n.I ∧ n.I ≤ 200) ∧ ma.I = n.I ∧ mb.I = n.I ∧ (a.L.length : Int) = n.I ∧ (b.L.length : Int) = n.I ∧ 0 ≤ i.I ∧ i.I ≤ n.I))
      (.ite (allFrom (laterB a.L b.L) i.I.toNat (n.I.toNat - i.I.toNat)) (.leaf (.exit 0, [.i 0, .i v.I, .i s.I, .i to.I, .i t.I, .i e.I, .i n.I, .i n.I, .l r.L, .i x1.I, .i x2.I, .i x3.I, .l xc.L, .l a.L])) (.leaf (.ret, [.b false])))
  | [j, v, s, to, m, t, e, ma, mb, i, n, r, x1, x2, x3, xc, w, a, b] => .need (yes (j.I = 1 ∧ (1 ≤ n.I ∧ n.I ≤ 200) ∧ ma.I = n.I ∧ mb.I = n.I ∧ (a.L.length : Int) = n.I ∧ (b.L.length : Int) = n.I ∧ (0 ≤ i.I ∧ i.I ≤ n.I) ∧ m.I = w.L.length))
      (.ite (allFrom (laterB a.L b.L) i.I.toNat (n.I.toNat - i.I.toNat)) (.leaf (.exit 0, [.i 1, .i v.I, .i s.I, .i to.I, .i w.L.length, .i t.I, .i e.I, .i n.I, .i n.I, .l r.L, .i x1.I, .i x2.I, .i x3.I, .l xc.L, .l w.L, .l a.L])) (.leaf (.ret, [.b false])))
  | _ => .fail
def G5_20 (ds : List D) : T (Ex × List D) := match ds with
  | [j, v, s, to, t, e, ma, mc, i, n, r, a, c] => .need (yes (j.I = 0 ∧ (1 ≤ n.I ∧ n.I ≤ 200) ∧ ma.I = n.I ∧ mc.I = n.I ∧ (a.L.length : Int) = n.I ∧ (c.L.length : Int) = n.I ∧ 0 ≤ i.I ∧ i.I ≤ n.I))
      (.ite (allFrom (moreB a.L c.L) i.I.toNat (n.I.toNat - i.I.toNat)) (.leaf (.exit 2, [.i 0, .i v.I, .i s.I, .i to.I, .i t.I, .i e.I, .i n.I, .i n.I, .l r.L, .l a.L])) (.leaf (.ret, [.b false])))
  | [j, v, s, to, m, t, e, ma, mc, i, n, r, w, a, c] => .need (yes (j.I = 1 ∧ (1 ≤ n.I ∧ n.I ≤ 200) ∧ ma.I = n.I ∧ mc.I = n.I ∧ (a.L.length : Int) = n.I ∧ (c.L.length : Int) = n.I ∧ (0 ≤ i.I ∧ i.I ≤ n.I) ∧ m.I = w.L.length))
      (.ite (allFrom (moreB a.L c.L) i.I.toNat (n.I.toNat - i.I.toNat)) (.leaf (.exit 2, [.i 1, .i v.I, .i s.I, .i to.I, .i w.L.length, .i t.I, .i e.I, .i n.I, .i n.I, .l r.L, .l w.L, .l a.L])) (.leaf (.ret, [.b false])))
  | _ => .fail
def G5_28 (ds : List D) : T (Ex × List D) := match ds with
  | [j, to, t, ma, v, s, i, _n, _r, a] => .need (yes (j.I = 0 ∧ i.I = 0)) (.leaf (.exit 4, [.i to.I, .i t.I, .i (ma.I.toNat : Int), .i v.I, .i s.I, .l a.L]))
  | [j, to, m, t, ma, v, s, i, n, r, w, a] => .need (yes (j.I = 1 ∧ netB n.I r.L = true ∧ m.I = w.L.length ∧ okW w.L ∧ 0 ≤ i.I ∧ i.I ≤ w.L.length))
      (.ite (driveF r.L w.L i.I.toNat (w.L.length - i.I.toNat) v.I s.I).1 (.leaf (.exit 4, [.i to.I, .i t.I, .i (ma.I.toNat : Int), .i (driveF r.L w.L i.I.toNat (w.L.length - i.I.toNat) v.I s.I).2.1, .i (driveF r.L w.L i.I.toNat (w.L.length - i.I.toNat) v.I s.I).2.2, .l a.L])) (.leaf (.ret, [.b false])))
  | _ => .fail
end
end Go.Proofs.Ytgmefblkmidglaa

namespace Go.Proofs.Ytgmefblkmidglaa
open Go.Lite
noncomputable def sp5 : SpL := [(15, mkF s15 G15), (19, mkF s19 G19), (20, mkF s20 G20), (23, mkF s23 G23x), (17, mkF s17 G17x), (25, mkF s25 G25)]
noncomputable def lp5 : LpL := [(9, mkL l5_9 G5_9), (20, mkL l5_20 G5_20), (28, mkL l5_28 G5_28)]
noncomputable def sw5 : SwL := []
noncomputable def tab5 : Tab := mkTab sp5 lp5 sw5
end Go.Proofs.Ytgmefblkmidglaa

namespace Go.Proofs.Ytgmefblkmidglaa
open Go.Lite
set_option linter.unusedVariables false
set_option maxRecDepth 100000
theorem t5 (a b c d e f g h i j : D) : fnT C tab5 5 s5 [a, b, c, d, e, f, g, h, i, j] =
  T.ite (!smallB (D.I a) (D.L b)) (T.leaf [D.b true]) (T.ite (!netB (D.I a) (D.L b)) (T.leaf [D.b true]) (T.ite (!nodeB (D.I a) (D.I c) (D.I d)) (T.leaf [D.b true]) (T.ite (!nodeB (D.I a) (D.I e) (0 : Int)) (T.leaf [D.b true]) (T.ite (decide (D.I f < (0 : Int))) (T.leaf [D.b true]) (T.ite (decide (D.I f > IntKind.wrap IntKind.i64 ((100000 : Int) - D.I d))) (T.leaf [D.b true]) (T.ite (decide ((↑(List.length (D.L j)) : Int) > (30 : Int))) (T.leaf [D.b true]) (T.need (yes ((netB (D.I a) (D.L b) && nodeB (D.I a) (D.I c) (D.I d) && nodeB (D.I a) (D.I e) (0 : Int)) = true)) (T.ite (List.isEmpty (wayX (D.I a) (D.L b) (D.I c) (D.I d) (D.I e))) (T.need (yes ((netB (D.I a) (D.L b) && nodeB (D.I a) (D.I c) (D.I d)) = true)) (T.need (yes ((netB (D.I a) (D.L b) && nodeB (D.I a) (D.I c) (IntKind.wrap IntKind.i64 (D.I d + D.I f))) = true)) (T.ite false (T.leaf [D.b false]) (T.ite false (T.leaf [D.b false]) (T.ite ((↑(Int.toNat (D.I a)) : Int) != D.I a) (T.leaf [D.b false]) (T.ite ((↑(Int.toNat (D.I a)) : Int) != D.I a) (T.leaf [D.b false]) (T.need (yes ((↑0 : Int) = (0 : Int) ∧ ((1 : Int) ≤ D.I a ∧ D.I a ≤ (200 : Int)) ∧ (↑(Int.toNat (D.I a)) : Int) = D.I a ∧ (↑(Int.toNat (D.I a)) : Int) = D.I a ∧ (↑(List.length (arrF (D.I a) (D.L b) (D.I c) (D.I d))) : Int) = D.I a ∧ (↑(List.length (arrF (D.I a) (D.L b) (D.I c) (IntKind.wrap IntKind.i64 (D.I d + D.I f)))) : Int) = D.I a ∧ (0 : Int) ≤ (0 : Int) ∧ (0 : Int) ≤ D.I a)) (T.ite (allFrom (laterB (arrF (D.I a) (D.L b) (D.I c) (D.I d)) (arrF (D.I a) (D.L b) (D.I c) (IntKind.wrap IntKind.i64 (D.I d + D.I f)))) (Int.toNat (0 : Int)) (Int.toNat (D.I a) - Int.toNat (0 : Int))) (T.ite (List.isEmpty (D.L b)) (T.need true (T.ite false (T.ite (netB (D.I a) []) (T.need (yes ((netB (D.I a) [] && nodeB (D.I a) (D.I c) (D.I d)) = true)) (T.ite false (T.leaf [D.b false]) (T.ite ((↑(Int.toNat (D.I a)) : Int) != D.I a) (T.leaf [D.b false]) (T.need (yes ((↑0 : Int) = (0 : Int) ∧ ((1 : Int) ≤ D.I a ∧ D.I a ≤ (200 : Int)) ∧ (↑(Int.toNat (D.I a)) : Int) = D.I a ∧ (↑(Int.toNat (D.I a)) : Int) = D.I a ∧ (↑(List.length (arrF (D.I a) (D.L b) (D.I c) (D.I d))) : Int) = D.I a ∧ (↑(List.length (arrF (D.I a) [] (D.I c) (D.I d))) : Int) = D.I a ∧ (0 : Int) ≤ (0 : Int) ∧ (0 : Int) ≤ D.I a)) (T.ite (allFrom (moreB (arrF (D.I a) (D.L b) (D.I c) (D.I d)) (arrF (D.I a) [] (D.I c) (D.I d))) (Int.toNat (0 : Int)) (Int.toNat (D.I a) - Int.toNat (0 : Int))) (T.ite (codeX (D.I a) (D.L b) (D.I c) (D.I d) (D.I e) != (0 : Int)) (T.ite (codeX (D.I a) (D.L b) (D.I c) (D.I d) (D.I e) == (5 : Int)) (T.need (decide ((0 : Int) ≤ D.I e ∧ D.I e < (↑(Int.toNat (D.I a)) : Int))) (T.need (decide (Int.toNat (D.I e) < List.length (arrF (D.I a) (D.L b) (D.I c) (D.I d)))) (T.ite (decide (D.I (List.getD (List.getD (arrF (D.I a) (D.L b) (D.I c) (D.I d)) (Int.toNat (D.I e)) []) 0 default) < (0 : Int))) (T.leaf [D.b true]) (T.leaf [D.b false])))) (T.leaf [D.b false])) (T.need (yes ((↑0 : Int) = (0 : Int) ∧ (0 : Int) = (0 : Int))) (T.ite (D.I c == D.I e) (T.ite (D.I d == timeX (D.I a) (D.L b) (D.I c) (D.I d) (D.I e)) (T.need (decide ((0 : Int) ≤ D.I e ∧ D.I e < (↑(Int.toNat (↑(Int.toNat (↑(Int.toNat (D.I a)) : Int)) : Int)) : Int))) (T.need (decide (Int.toNat (D.I e) < List.length (arrF (D.I a) (D.L b) (D.I c) (D.I d)))) (T.ite (timeX (D.I a) (D.L b) (D.I c) (D.I d) (D.I e) == D.I (List.getD (List.getD (arrF (D.I a) (D.L b) (D.I c) (D.I d)) (Int.toNat (D.I e)) []) 0 default)) (T.leaf [D.b true]) (T.leaf [D.b false])))) (T.leaf [D.b false])) (T.leaf [D.b false])))) (T.leaf [D.b false])))))) (T.ite (codeX (D.I a) (D.L b) (D.I c) (D.I d) (D.I e) != (0 : Int)) (T.ite (codeX (D.I a) (D.L b) (D.I c) (D.I d) (D.I e) == (5 : Int)) (T.need (decide ((0 : Int) ≤ D.I e ∧ D.I e < (↑(Int.toNat (D.I a)) : Int))) (T.need (decide (Int.toNat (D.I e) < List.length (arrF (D.I a) (D.L b) (D.I c) (D.I d)))) (T.ite (decide (D.I (List.getD (List.getD (arrF (D.I a) (D.L b) (D.I c) (D.I d)) (Int.toNat (D.I e)) []) 0 default) < (0 : Int))) (T.leaf [D.b true]) (T.leaf [D.b false])))) (T.leaf [D.b false])) (T.need (yes ((↑0 : Int) = (0 : Int) ∧ (0 : Int) = (0 : Int))) (T.ite (D.I c == D.I e) (T.ite (D.I d == timeX (D.I a) (D.L b) (D.I c) (D.I d) (D.I e)) (T.need (decide ((0 : Int) ≤ D.I e ∧ D.I e < (↑(Int.toNat (↑(Int.toNat (↑(Int.toNat (D.I a)) : Int)) : Int)) : Int))) (T.need (decide (Int.toNat (D.I e) < List.length (arrF (D.I a) (D.L b) (D.I c) (D.I d)))) (T.ite (timeX (D.I a) (D.L b) (D.I c) (D.I d) (D.I e) == D.I (List.getD (List.getD (arrF (D.I a) (D.L b) (D.I c) (D.I d)) (Int.toNat (D.I e)) []) 0 default)) (T.leaf [D.b true]) (T.leaf [D.b false])))) (T.leaf [D.b false])) (T.leaf [D.b false]))))) (T.need true (T.need true (T.ite (netB (D.I a) (List.take (List.length (List.take (List.length [[D.i (D.I g), D.i (D.I h), D.i (D.I i), D.l (D.L j)]]) [[D.i (D.I g), D.i (D.I h), D.i (D.I i), D.l (D.L j)]])) (List.take (List.length [[D.i (D.I g), D.i (D.I h), D.i (D.I i), D.l (D.L j)]]) [[D.i (D.I g), D.i (D.I h), D.i (D.I i), D.l (D.L j)]]))) (T.need true (T.need (yes ((netB (D.I a) (List.take (List.length (List.take (List.length [[D.i (D.I g), D.i (D.I h), D.i (D.I i), D.l (D.L j)]]) [[D.i (D.I g), D.i (D.I h), D.i (D.I i), D.l (D.L j)]])) (List.take (List.length [[D.i (D.I g), D.i (D.I h), D.i (D.I i), D.l (D.L j)]]) [[D.i (D.I g), D.i (D.I h), D.i (D.I i), D.l (D.L j)]])) && nodeB (D.I a) (D.I c) (D.I d)) = true)) (T.ite false (T.leaf [D.b false]) (T.ite ((↑(Int.toNat (D.I a)) : Int) != D.I a) (T.leaf [D.b false]) (T.need (yes ((↑0 : Int) = (0 : Int) ∧ ((1 : Int) ≤ D.I a ∧ D.I a ≤ (200 : Int)) ∧ (↑(Int.toNat (D.I a)) : Int) = D.I a ∧ (↑(Int.toNat (D.I a)) : Int) = D.I a ∧ (↑(List.length (arrF (D.I a) (D.L b) (D.I c) (D.I d))) : Int) = D.I a ∧ (↑(List.length (arrF (D.I a) (List.take (List.length (List.take (List.length [[D.i (D.I g), D.i (D.I h), D.i (D.I i), D.l (D.L j)]]) [[D.i (D.I g), D.i (D.I h), D.i (D.I i), D.l (D.L j)]])) (List.take (List.length [[D.i (D.I g), D.i (D.I h), D.i (D.I i), D.l (D.L j)]]) [[D.i (D.I g), D.i (D.I h), D.i (D.I i), D.l (D.L j)]])) (D.I c) (D.I d))) : Int) = D.I a ∧ (0 : Int) ≤ (0 : Int) ∧ (0 : Int) ≤ D.I a)) (T.ite (allFrom (moreB (arrF (D.I a) (D.L b) (D.I c) (D.I d)) (arrF (D.I a) (List.take (List.length (List.take (List.length [[D.i (D.I g), D.i (D.I h), D.i (D.I i), D.l (D.L j)]]) [[D.i (D.I g), D.i (D.I h), D.i (D.I i), D.l (D.L j)]])) (List.take (List.length [[D.i (D.I g), D.i (D.I h), D.i (D.I i), D.l (D.L j)]]) [[D.i (D.I g), D.i (D.I h), D.i (D.I i), D.l (D.L j)]])) (D.I c) (D.I d))) (Int.toNat (0 : Int)) (Int.toNat (D.I a) - Int.toNat (0 : Int))) (T.ite (codeX (D.I a) (D.L b) (D.I c) (D.I d) (D.I e) != (0 : Int)) (T.ite (codeX (D.I a) (D.L b) (D.I c) (D.I d) (D.I e) == (5 : Int)) (T.need (decide ((0 : Int) ≤ D.I e ∧ D.I e < (↑(Int.toNat (D.I a)) : Int))) (T.need (decide (Int.toNat (D.I e) < List.length (arrF (D.I a) (D.L b) (D.I c) (D.I d)))) (T.ite (decide (D.I (List.getD (List.getD (arrF (D.I a) (D.L b) (D.I c) (D.I d)) (Int.toNat (D.I e)) []) 0 default) < (0 : Int))) (T.leaf [D.b true]) (T.leaf [D.b false])))) (T.leaf [D.b false])) (T.need (yes ((↑0 : Int) = (0 : Int) ∧ (0 : Int) = (0 : Int))) (T.ite (D.I c == D.I e) (T.ite (D.I d == timeX (D.I a) (D.L b) (D.I c) (D.I d) (D.I e)) (T.need (decide ((0 : Int) ≤ D.I e ∧ D.I e < (↑(Int.toNat (↑(Int.toNat (↑(Int.toNat (D.I a)) : Int)) : Int)) : Int))) (T.need (decide (Int.toNat (D.I e) < List.length (arrF (D.I a) (D.L b) (D.I c) (D.I d)))) (T.ite (timeX (D.I a) (D.L b) (D.I c) (D.I d) (D.I e) == D.I (List.getD (List.getD (arrF (D.I a) (D.L b) (D.I c) (D.I d)) (Int.toNat (D.I e)) []) 0 default)) (T.leaf [D.b true]) (T.leaf [D.b false])))) (T.leaf [D.b false])) (T.leaf [D.b false])))) (T.leaf [D.b false]))))))) (T.ite (codeX (D.I a) (D.L b) (D.I c) (D.I d) (D.I e) != (0 : Int)) (T.ite (codeX (D.I a) (D.L b) (D.I c) (D.I d) (D.I e) == (5 : Int)) (T.need (decide ((0 : Int) ≤ D.I e ∧ D.I e < (↑(Int.toNat (D.I a)) : Int))) (T.need (decide (Int.toNat (D.I e) < List.length (arrF (D.I a) (D.L b) (D.I c) (D.I d)))) (T.ite (decide (D.I (List.getD (List.getD (arrF (D.I a) (D.L b) (D.I c) (D.I d)) (Int.toNat (D.I e)) []) 0 default) < (0 : Int))) (T.leaf [D.b true]) (T.leaf [D.b false])))) (T.leaf [D.b false])) (T.need (yes ((↑0 : Int) = (0 : Int) ∧ (0 : Int) = (0 : Int))) (T.ite (D.I c == D.I e) (T.ite (D.I d == timeX (D.I a) (D.L b) (D.I c) (D.I d) (D.I e)) (T.need (decide ((0 : Int) ≤ D.I e ∧ D.I e < (↑(Int.toNat (↑(Int.toNat (↑(Int.toNat (D.I a)) : Int)) : Int)) : Int))) (T.need (decide (Int.toNat (D.I e) < List.length (arrF (D.I a) (D.L b) (D.I c) (D.I d)))) (T.ite (timeX (D.I a) (D.L b) (D.I c) (D.I d) (D.I e) == D.I (List.getD (List.getD (arrF (D.I a) (D.L b) (D.I c) (D.I d)) (Int.toNat (D.I e)) []) 0 default)) (T.leaf [D.b true]) (T.leaf [D.b false])))) (T.leaf [D.b false])) (T.leaf [D.b false]))))))))) (T.need (decide (List.length (D.L b) ≤ 2 ^ 62 ∧ List.length (D.L b) * Try.prog.types[44].bytes ≤ 2 ^ 47)) (T.need true (T.ite false (T.need (decide (List.length (D.L b) ≤ List.length (D.L b))) (T.ite (netB (D.I a) (List.take (List.length (D.L b)) (D.L b))) (T.need (decide (List.length (D.L b) ≤ List.length (D.L b))) (T.need (yes ((netB (D.I a) (List.take (List.length (D.L b)) (D.L b)) && nodeB (D.I a) (D.I c) (D.I d)) = true)) (T.ite false (T.leaf [D.b false]) (T.ite ((↑(Int.toNat (D.I a)) : Int) != D.I a) (T.leaf [D.b false]) (T.need (yes ((↑0 : Int) = (0 : Int) ∧ ((1 : Int) ≤ D.I a ∧ D.I a ≤ (200 : Int)) ∧ (↑(Int.toNat (D.I a)) : Int) = D.I a ∧ (↑(Int.toNat (D.I a)) : Int) = D.I a ∧ (↑(List.length (arrF (D.I a) (D.L b) (D.I c) (D.I d))) : Int) = D.I a ∧ (↑(List.length (arrF (D.I a) (List.take (List.length (D.L b)) (D.L b)) (D.I c) (D.I d))) : Int) = D.I a ∧ (0 : Int) ≤ (0 : Int) ∧ (0 : Int) ≤ D.I a)) (T.ite (allFrom (moreB (arrF (D.I a) (D.L b) (D.I c) (D.I d)) (arrF (D.I a) (List.take (List.length (D.L b)) (D.L b)) (D.I c) (D.I d))) (Int.toNat (0 : Int)) (Int.toNat (D.I a) - Int.toNat (0 : Int))) (T.ite (codeX (D.I a) (D.L b) (D.I c) (D.I d) (D.I e) != (0 : Int)) (T.ite (codeX (D.I a) (D.L b) (D.I c) (D.I d) (D.I e) == (5 : Int)) (T.need (decide ((0 : Int) ≤ D.I e ∧ D.I e < (↑(Int.toNat (D.I a)) : Int))) (T.need (decide (Int.toNat (D.I e) < List.length (arrF (D.I a) (D.L b) (D.I c) (D.I d)))) (T.ite (decide (D.I (List.getD (List.getD (arrF (D.I a) (D.L b) (D.I c) (D.I d)) (Int.toNat (D.I e)) []) 0 default) < (0 : Int))) (T.leaf [D.b true]) (T.leaf [D.b false])))) (T.leaf [D.b false])) (T.need (yes ((↑0 : Int) = (0 : Int) ∧ (0 : Int) = (0 : Int))) (T.ite (D.I c == D.I e) (T.ite (D.I d == timeX (D.I a) (D.L b) (D.I c) (D.I d) (D.I e)) (T.need (decide ((0 : Int) ≤ D.I e ∧ D.I e < (↑(Int.toNat (↑(Int.toNat (↑(Int.toNat (D.I a)) : Int)) : Int)) : Int))) (T.need (decide (Int.toNat (D.I e) < List.length (arrF (D.I a) (D.L b) (D.I c) (D.I d)))) (T.ite (timeX (D.I a) (D.L b) (D.I c) (D.I d) (D.I e) == D.I (List.getD (List.getD (arrF (D.I a) (D.L b) (D.I c) (D.I d)) (Int.toNat (D.I e)) []) 0 default)) (T.leaf [D.b true]) (T.leaf [D.b false])))) (T.leaf [D.b false])) (T.leaf [D.b false])))) (T.leaf [D.b false]))))))) (T.ite (codeX (D.I a) (D.L b) (D.I c) (D.I d) (D.I e) != (0 : Int)) (T.ite (codeX (D.I a) (D.L b) (D.I c) (D.I d) (D.I e) == (5 : Int)) (T.need (decide ((0 : Int) ≤ D.I e ∧ D.I e < (↑(Int.toNat (D.I a)) : Int))) (T.need (decide (Int.toNat (D.I e) < List.length (arrF (D.I a) (D.L b) (D.I c) (D.I d)))) (T.ite (decide (D.I (List.getD (List.getD (arrF (D.I a) (D.L b) (D.I c) (D.I d)) (Int.toNat (D.I e)) []) 0 default) < (0 : Int))) (T.leaf [D.b true]) (T.leaf [D.b false])))) (T.leaf [D.b false])) (T.need (yes ((↑0 : Int) = (0 : Int) ∧ (0 : Int) = (0 : Int))) (T.ite (D.I c == D.I e) (T.ite (D.I d == timeX (D.I a) (D.L b) (D.I c) (D.I d) (D.I e)) (T.need (decide ((0 : Int) ≤ D.I e ∧ D.I e < (↑(Int.toNat (↑(Int.toNat (↑(Int.toNat (D.I a)) : Int)) : Int)) : Int))) (T.need (decide (Int.toNat (D.I e) < List.length (arrF (D.I a) (D.L b) (D.I c) (D.I d)))) (T.ite (timeX (D.I a) (D.L b) (D.I c) (D.I d) (D.I e) == D.I (List.getD (List.getD (arrF (D.I a) (D.L b) (D.I c) (D.I d)) (Int.toNat (D.I e)) []) 0 default)) (T.leaf [D.b true]) (T.leaf [D.b false])))) (T.leaf [D.b false])) (T.leaf [D.b false])))))) (T.need (decide (List.length (D.L b) ≤ List.length (D.L b) ∧ List.length (D.L b) + List.length (List.take (List.length [[D.i (D.I g), D.i (D.I h), D.i (D.I i), D.l (D.L j)]]) [[D.i (D.I g), D.i (D.I h), D.i (D.I i), D.l (D.L j)]]) ≤ 2 ^ 62 ∧ (List.length (D.L b) + List.length (List.take (List.length [[D.i (D.I g), D.i (D.I h), D.i (D.I i), D.l (D.L j)]]) [[D.i (D.I g), D.i (D.I h), D.i (D.I i), D.l (D.L j)]])) * Try.prog.types[44].bytes ≤ 2 ^ 47)) (T.need (decide (List.length (D.L b) + List.length (List.take (List.length [[D.i (D.I g), D.i (D.I h), D.i (D.I i), D.l (D.L j)]]) [[D.i (D.I g), D.i (D.I h), D.i (D.I i), D.l (D.L j)]]) ≤ List.length (List.take (List.length (D.L b)) (D.L b) ++ List.take (List.length [[D.i (D.I g), D.i (D.I h), D.i (D.I i), D.l (D.L j)]]) [[D.i (D.I g), D.i (D.I h), D.i (D.I i), D.l (D.L j)]]))) (T.ite (netB (D.I a) (List.take (List.length (D.L b) + List.length (List.take (List.length [[D.i (D.I g), D.i (D.I h), D.i (D.I i), D.l (D.L j)]]) [[D.i (D.I g), D.i (D.I h), D.i (D.I i), D.l (D.L j)]])) (List.take (List.length (D.L b)) (D.L b) ++ List.take (List.length [[D.i (D.I g), D.i (D.I h), D.i (D.I i), D.l (D.L j)]]) [[D.i (D.I g), D.i (D.I h), D.i (D.I i), D.l (D.L j)]]))) (T.need (decide (List.length (D.L b) + List.length (List.take (List.length [[D.i (D.I g), D.i (D.I h), D.i (D.I i), D.l (D.L j)]]) [[D.i (D.I g), D.i (D.I h), D.i (D.I i), D.l (D.L j)]]) ≤ List.length (List.take (List.length (D.L b)) (D.L b) ++ List.take (List.length [[D.i (D.I g), D.i (D.I h), D.i (D.I i), D.l (D.L j)]]) [[D.i (D.I g), D.i (D.I h), D.i (D.I i), D.l (D.L j)]]))) (T.need (yes ((netB (D.I a) (List.take (List.length (D.L b) + List.length (List.take (List.length [[D.i (D.I g), D.i (D.I h), D.i (D.I i), D.l (D.L j)]]) [[D.i (D.I g), D.i (D.I h), D.i (D.I i), D.l (D.L j)]])) (List.take (List.length (D.L b)) (D.L b) ++ List.take (List.length [[D.i (D.I g), D.i (D.I h), D.i (D.I i), D.l (D.L j)]]) [[D.i (D.I g), D.i (D.I h), D.i (D.I i), D.l (D.L j)]])) && nodeB (D.I a) (D.I c) (D.I d)) = true)) (T.ite false (T.leaf [D.b false]) (T.ite ((↑(Int.toNat (D.I a)) : Int) != D.I a) (T.leaf [D.b false]) (T.need (yes ((↑0 : Int) = (0 : Int) ∧ ((1 : Int) ≤ D.I a ∧ D.I a ≤ (200 : Int)) ∧ (↑(Int.toNat (D.I a)) : Int) = D.I a ∧ (↑(Int.toNat (D.I a)) : Int) = D.I a ∧ (↑(List.length (arrF (D.I a) (D.L b) (D.I c) (D.I d))) : Int) = D.I a ∧ (↑(List.length (arrF (D.I a) (List.take (List.length (D.L b) + List.length (List.take (List.length [[D.i (D.I g), D.i (D.I h), D.i (D.I i), D.l (D.L j)]]) [[D.i (D.I g), D.i (D.I h), D.i (D.I i), D.l (D.L j)]])) (List.take (List.length (D.L b)) (D.L b) ++ List.take (List.length [[D.i (D.I g), D.i (D.I h), D.i (D.I i), D.l (D.L j)]]) [[D.i (D.I g), D.i (D.I h), D.i (D.I i), D.l (D.L j)]])) (D.I c) (D.I d))) : Int) = D.I a ∧ (0 : Int) ≤ (0 : Int) ∧ (0 : Int) ≤ D.I a)) (T.ite (allFrom (moreB (arrF (D.I a) (D.L b) (D.I c) (D.I d)) (arrF (D.I a) (List.take (List.length (D.L b) + List.length (List.take (List.length [[D.i (D.I g), D.i (D.I h), D.i (D.I i), D.l (D.L j)]]) [[D.i (D.I g), D.i (D.I h), D.i (D.I i), D.l (D.L j)]])) (List.take (List.length (D.L b)) (D.L b) ++ List.take (List.length [[D.i (D.I g), D.i (D.I h), D.i (D.I i), D.l (D.L j)]]) [[D.i (D.I g), D.i (D.I h), D.i (D.I i), D.l (D.L j)]])) (D.I c) (D.I d))) (Int.toNat (0 : Int)) (Int.toNat (D.I a) - Int.toNat (0 : Int))) (T.ite (codeX (D.I a) (D.L b) (D.I c) (D.I d) (D.I e) != (0 : Int)) (T.ite (codeX (D.I a) (D.L b) (D.I c) (D.I d) (D.I e) == (5 : Int)) (T.need (decide ((0 : Int) ≤ D.I e ∧ D.I e < (↑(Int.toNat (D.I a)) : Int))) (T.need (decide (Int.toNat (D.I e) < List.length (arrF (D.I a) (D.L b) (D.I c) (D.I d)))) (T.ite (decide (D.I (List.getD (List.getD (arrF (D.I a) (D.L b) (D.I c) (D.I d)) (Int.toNat (D.I e)) []) 0 default) < (0 : Int))) (T.leaf [D.b true]) (T.leaf [D.b false])))) (T.leaf [D.b false])) (T.need (yes ((↑0 : Int) = (0 : Int) ∧ (0 : Int) = (0 : Int))) (T.ite (D.I c == D.I e) (T.ite (D.I d == timeX (D.I a) (D.L b) (D.I c) (D.I d) (D.I e)) (T.need (decide ((0 : Int) ≤ D.I e ∧ D.I e < (↑(Int.toNat (↑(Int.toNat (↑(Int.toNat (D.I a)) : Int)) : Int)) : Int))) (T.need (decide (Int.toNat (D.I e) < List.length (arrF (D.I a) (D.L b) (D.I c) (D.I d)))) (T.ite (timeX (D.I a) (D.L b) (D.I c) (D.I d) (D.I e) == D.I (List.getD (List.getD (arrF (D.I a) (D.L b) (D.I c) (D.I d)) (Int.toNat (D.I e)) []) 0 default)) (T.leaf [D.b true]) (T.leaf [D.b false])))) (T.leaf [D.b false])) (T.leaf [D.b false])))) (T.leaf [D.b false]))))))) (T.ite (codeX (D.I a) (D.L b) (D.I c) (D.I d) (D.I e) != (0 : Int)) (T.ite (codeX (D.I a) (D.L b) (D.I c) (D.I d) (D.I e) == (5 : Int)) (T.need (decide ((0 : Int) ≤ D.I e ∧ D.I e < (↑(Int.toNat (D.I a)) : Int))) (T.need (decide (Int.toNat (D.I e) < List.length (arrF (D.I a) (D.L b) (D.I c) (D.I d)))) (T.ite (decide (D.I (List.getD (List.getD (arrF (D.I a) (D.L b) (D.I c) (D.I d)) (Int.toNat (D.I e)) []) 0 default) < (0 : Int))) (T.leaf [D.b true]) (T.leaf [D.b false])))) (T.leaf [D.b false])) (T.need (yes ((↑0 : Int) = (0 : Int) ∧ (0 : Int) = (0 : Int))) (T.ite (D.I c == D.I e) (T.ite (D.I d == timeX (D.I a) (D.L b) (D.I c) (D.I d) (D.I e)) (T.need (decide ((0 : Int) ≤ D.I e ∧ D.I e < (↑(Int.toNat (↑(Int.toNat (↑(Int.toNat (D.I a)) : Int)) : Int)) : Int))) (T.need (decide (Int.toNat (D.I e) < List.length (arrF (D.I a) (D.L b) (D.I c) (D.I d)))) (T.ite (timeX (D.I a) (D.L b) (D.I c) (D.I d) (D.I e) == D.I (List.getD (List.getD (arrF (D.I a) (D.L b) (D.I c) (D.I d)) (Int.toNat (D.I e)) []) 0 default)) (T.leaf [D.b true]) (T.leaf [D.b false])))) (T.leaf [D.b false])) (T.leaf [D.b false]))))))))))) (T.leaf [D.b false]))))))))) (T.need (yes ((netB (D.I a) (D.L b) && nodeB (D.I a) (D.I c) (D.I d)) = true)) (T.need (yes ((netB (D.I a) (D.L b) && nodeB (D.I a) (D.I c) (IntKind.wrap IntKind.i64 (D.I d + D.I f))) = true)) (T.ite false (T.leaf [D.b false]) (T.ite false (T.leaf [D.b false]) (T.ite ((↑(Int.toNat (D.I a)) : Int) != D.I a) (T.leaf [D.b false]) (T.ite ((↑(Int.toNat (D.I a)) : Int) != D.I a) (T.leaf [D.b false]) (T.need (yes ((↑(0 + 1) : Int) = (1 : Int) ∧ ((1 : Int) ≤ D.I a ∧ D.I a ≤ (200 : Int)) ∧ (↑(Int.toNat (D.I a)) : Int) = D.I a ∧ (↑(Int.toNat (D.I a)) : Int) = D.I a ∧ (↑(List.length (arrF (D.I a) (D.L b) (D.I c) (D.I d))) : Int) = D.I a ∧ (↑(List.length (arrF (D.I a) (D.L b) (D.I c) (IntKind.wrap IntKind.i64 (D.I d + D.I f)))) : Int) = D.I a ∧ ((0 : Int) ≤ (0 : Int) ∧ (0 : Int) ≤ D.I a) ∧ (↑(Int.toNat (↑(List.length (wayX (D.I a) (D.L b) (D.I c) (D.I d) (D.I e))) : Int)) : Int) = (↑(List.length (wayX (D.I a) (D.L b) (D.I c) (D.I d) (D.I e))) : Int))) (T.ite (allFrom (laterB (arrF (D.I a) (D.L b) (D.I c) (D.I d)) (arrF (D.I a) (D.L b) (D.I c) (IntKind.wrap IntKind.i64 (D.I d + D.I f)))) (Int.toNat (0 : Int)) (Int.toNat (D.I a) - Int.toNat (0 : Int))) (T.ite (List.isEmpty (D.L b)) (T.need true (T.ite false (T.ite (netB (D.I a) []) (T.need (yes ((netB (D.I a) [] && nodeB (D.I a) (D.I c) (D.I d)) = true)) (T.ite false (T.leaf [D.b false]) (T.ite ((↑(Int.toNat (D.I a)) : Int) != D.I a) (T.leaf [D.b false]) (T.need (yes ((↑(0 + 1) : Int) = (1 : Int) ∧ ((1 : Int) ≤ D.I a ∧ D.I a ≤ (200 : Int)) ∧ (↑(Int.toNat (D.I a)) : Int) = D.I a ∧ (↑(Int.toNat (D.I a)) : Int) = D.I a ∧ (↑(List.length (arrF (D.I a) (D.L b) (D.I c) (D.I d))) : Int) = D.I a ∧ (↑(List.length (arrF (D.I a) [] (D.I c) (D.I d))) : Int) = D.I a ∧ ((0 : Int) ≤ (0 : Int) ∧ (0 : Int) ≤ D.I a) ∧ (↑(Int.toNat (↑(List.length (wayX (D.I a) (D.L b) (D.I c) (D.I d) (D.I e))) : Int)) : Int) = (↑(List.length (wayX (D.I a) (D.L b) (D.I c) (D.I d) (D.I e))) : Int))) (T.ite (allFrom (moreB (arrF (D.I a) (D.L b) (D.I c) (D.I d)) (arrF (D.I a) [] (D.I c) (D.I d))) (Int.toNat (0 : Int)) (Int.toNat (D.I a) - Int.toNat (0 : Int))) (T.ite (codeX (D.I a) (D.L b) (D.I c) (D.I d) (D.I e) != (0 : Int)) (T.ite (codeX (D.I a) (D.L b) (D.I c) (D.I d) (D.I e) == (5 : Int)) (T.need (decide ((0 : Int) ≤ D.I e ∧ D.I e < (↑(Int.toNat (D.I a)) : Int))) (T.need (decide (Int.toNat (D.I e) < List.length (arrF (D.I a) (D.L b) (D.I c) (D.I d)))) (T.ite (decide (D.I (List.getD (List.getD (arrF (D.I a) (D.L b) (D.I c) (D.I d)) (Int.toNat (D.I e)) []) 0 default) < (0 : Int))) (T.leaf [D.b true]) (T.leaf [D.b false])))) (T.leaf [D.b false])) (T.need (yes ((↑(0 + 1) : Int) = (1 : Int) ∧ netB (D.I a) (D.L b) = true ∧ (↑(Int.toNat (↑(List.length (wayX (D.I a) (D.L b) (D.I c) (D.I d) (D.I e))) : Int)) : Int) = (↑(List.length (wayX (D.I a) (D.L b) (D.I c) (D.I d) (D.I e))) : Int) ∧ okW (wayX (D.I a) (D.L b) (D.I c) (D.I d) (D.I e)) ∧ (0 : Int) ≤ (0 : Int) ∧ (0 : Int) ≤ (↑(List.length (wayX (D.I a) (D.L b) (D.I c) (D.I d) (D.I e))) : Int))) (T.ite (driveF (D.L b) (wayX (D.I a) (D.L b) (D.I c) (D.I d) (D.I e)) (Int.toNat (0 : Int)) (List.length (wayX (D.I a) (D.L b) (D.I c) (D.I d) (D.I e)) - Int.toNat (0 : Int)) (D.I c) (D.I d)).fst (T.ite ((driveF (D.L b) (wayX (D.I a) (D.L b) (D.I c) (D.I d) (D.I e)) (Int.toNat (0 : Int)) (List.length (wayX (D.I a) (D.L b) (D.I c) (D.I d) (D.I e)) - Int.toNat (0 : Int)) (D.I c) (D.I d)).snd.fst == D.I e) (T.ite ((driveF (D.L b) (wayX (D.I a) (D.L b) (D.I c) (D.I d) (D.I e)) (Int.toNat (0 : Int)) (List.length (wayX (D.I a) (D.L b) (D.I c) (D.I d) (D.I e)) - Int.toNat (0 : Int)) (D.I c) (D.I d)).snd.snd == timeX (D.I a) (D.L b) (D.I c) (D.I d) (D.I e)) (T.need (decide ((0 : Int) ≤ D.I e ∧ D.I e < (↑(Int.toNat (↑(Int.toNat (↑(Int.toNat (D.I a)) : Int)) : Int)) : Int))) (T.need (decide (Int.toNat (D.I e) < List.length (arrF (D.I a) (D.L b) (D.I c) (D.I d)))) (T.ite (timeX (D.I a) (D.L b) (D.I c) (D.I d) (D.I e) == D.I (List.getD (List.getD (arrF (D.I a) (D.L b) (D.I c) (D.I d)) (Int.toNat (D.I e)) []) 0 default)) (T.leaf [D.b true]) (T.leaf [D.b false])))) (T.leaf [D.b false])) (T.leaf [D.b false])) (T.leaf [D.b false])))) (T.leaf [D.b false])))))) (T.ite (codeX (D.I a) (D.L b) (D.I c) (D.I d) (D.I e) != (0 : Int)) (T.ite (codeX (D.I a) (D.L b) (D.I c) (D.I d) (D.I e) == (5 : Int)) (T.need (decide ((0 : Int) ≤ D.I e ∧ D.I e < (↑(Int.toNat (D.I a)) : Int))) (T.need (decide (Int.toNat (D.I e) < List.length (arrF (D.I a) (D.L b) (D.I c) (D.I d)))) (T.ite (decide (D.I (List.getD (List.getD (arrF (D.I a) (D.L b) (D.I c) (D.I d)) (Int.toNat (D.I e)) []) 0 default) < (0 : Int))) (T.leaf [D.b true]) (T.leaf [D.b false])))) (T.leaf [D.b false])) (T.need (yes ((↑(0 + 1) : Int) = (1 : Int) ∧ netB (D.I a) (D.L b) = true ∧ (↑(Int.toNat (↑(List.length (wayX (D.I a) (D.L b) (D.I c) (D.I d) (D.I e))) : Int)) : Int) = (↑(List.length (wayX (D.I a) (D.L b) (D.I c) (D.I d) (D.I e))) : Int) ∧ okW (wayX (D.I a) (D.L b) (D.I c) (D.I d) (D.I e)) ∧ (0 : Int) ≤ (0 : Int) ∧ (0 : Int) ≤ (↑(List.length (wayX (D.I a) (D.L b) (D.I c) (D.I d) (D.I e))) : Int))) (T.ite (driveF (D.L b) (wayX (D.I a) (D.L b) (D.I c) (D.I d) (D.I e)) (Int.toNat (0 : Int)) (List.length (wayX (D.I a) (D.L b) (D.I c) (D.I d) (D.I e)) - Int.toNat (0 : Int)) (D.I c) (D.I d)).fst (T.ite ((driveF (D.L b) (wayX (D.I a) (D.L b) (D.I c) (D.I d) (D.I e)) (Int.toNat (0 : Int)) (List.length (wayX (D.I a) (D.L b) (D.I c) (D.I d) (D.I e)) - Int.toNat (0 : Int)) (D.I c) (D.I d)).snd.fst == D.I e) (T.ite ((driveF (D.L b) (wayX (D.I a) (D.L b) (D.I c) (D.I d) (D.I e)) (Int.toNat (0 : Int)) (List.length (wayX (D.I a) (D.L b) (D.I c) (D.I d) (D.I e)) - Int.toNat (0 : Int)) (D.I c) (D.I d)).snd.snd == timeX (D.I a) (D.L b) (D.I c) (D.I d) (D.I e)) (T.need (decide ((0 : Int) ≤ D.I e ∧ D.I e < (↑(Int.toNat (↑(Int.toNat (↑(Int.toNat (D.I a)) : Int)) : Int)) : Int))) (T.need (decide (Int.toNat (D.I e) < List.length (arrF (D.I a) (D.L b) (D.I c) (D.I d)))) (T.ite (timeX (D.I a) (D.L b) (D.I c) (D.I d) (D.I e) == D.I (List.getD (List.getD (arrF (D.I a) (D.L b) (D.I c) (D.I d)) (Int.toNat (D.I e)) []) 0 default)) (T.leaf [D.b true]) (T.leaf [D.b false])))) (T.leaf [D.b false])) (T.leaf [D.b false])) (T.leaf [D.b false]))))) (T.need true (T.need true (T.ite (netB (D.I a) (List.take (List.length (List.take (List.length [[D.i (D.I g), D.i (D.I h), D.i (D.I i), D.l (D.L j)]]) [[D.i (D.I g), D.i (D.I h), D.i (D.I i), D.l (D.L j)]])) (List.take (List.length [[D.i (D.I g), D.i (D.I h), D.i (D.I i), D.l (D.L j)]]) [[D.i (D.I g), D.i (D.I h), D.i (D.I i), D.l (D.L j)]]))) (T.need true (T.need (yes ((netB (D.I a) (List.take (List.length (List.take (List.length [[D.i (D.I g), D.i (D.I h), D.i (D.I i), D.l (D.L j)]]) [[D.i (D.I g), D.i (D.I h), D.i (D.I i), D.l (D.L j)]])) (List.take (List.length [[D.i (D.I g), D.i (D.I h), D.i (D.I i), D.l (D.L j)]]) [[D.i (D.I g), D.i (D.I h), D.i (D.I i), D.l (D.L j)]])) && nodeB (D.I a) (D.I c) (D.I d)) = true)) (T.ite false (T.leaf [D.b false]) (T.ite ((↑(Int.toNat (D.I a)) : Int) != D.I a) (T.leaf [D.b false]) (T.need (yes ((↑(0 + 1) : Int) = (1 : Int) ∧ ((1 : Int) ≤ D.I a ∧ D.I a ≤ (200 : Int)) ∧ (↑(Int.toNat (D.I a)) : Int) = D.I a ∧ (↑(Int.toNat (D.I a)) : Int) = D.I a ∧ (↑(List.length (arrF (D.I a) (D.L b) (D.I c) (D.I d))) : Int) = D.I a ∧ (↑(List.length (arrF (D.I a) (List.take (List.length (List.take (List.length [[D.i (D.I g), D.i (D.I h), D.i (D.I i), D.l (D.L j)]]) [[D.i (D.I g), D.i (D.I h), D.i (D.I i), D.l (D.L j)]])) (List.take (List.length [[D.i (D.I g), D.i (D.I h), D.i (D.I i), D.l (D.L j)]]) [[D.i (D.I g), D.i (D.I h), D.i (D.I i), D.l (D.L j)]])) (D.I c) (D.I d))) : Int) = D.I a ∧ ((0 : Int) ≤ (0 : Int) ∧ (0 : Int) ≤ D.I a) ∧ (↑(Int.toNat (↑(List.length (wayX (D.I a) (D.L b) (D.I c) (D.I d) (D.I e))) : Int)) : Int) = (↑(List.length (wayX (D.I a) (D.L b) (D.I c) (D.I d) (D.I e))) : Int))) (T.ite (allFrom (moreB (arrF (D.I a) (D.L b) (D.I c) (D.I d)) (arrF (D.I a) (List.take (List.length (List.take (List.length [[D.i (D.I g), D.i (D.I h), D.i (D.I i), D.l (D.L j)]]) [[D.i (D.I g), D.i (D.I h), D.i (D.I i), D.l (D.L j)]])) (List.take (List.length [[D.i (D.I g), D.i (D.I h), D.i (D.I i), D.l (D.L j)]]) [[D.i (D.I g), D.i (D.I h), D.i (D.I i), D.l (D.L j)]])) (D.I c) (D.I d))) (Int.toNat (0 : Int)) (Int.toNat (D.I a) - Int.toNat (0 : Int))) (T.ite (codeX (D.I a) (D.L b) (D.I c) (D.I d) (D.I e) != (0 : Int)) (T.ite (codeX (D.I a) (D.L b) (D.I c) (D.I d) (D.I e) == (5 : Int)) (T.need (decide ((0 : Int) ≤ D.I e ∧ D.I e < (↑(Int.toNat (D.I a)) : Int))) (T.need (decide (Int.toNat (D.I e) < List.length (arrF (D.I a) (D.L b) (D.I c) (D.I d)))) (T.ite (decide (D.I (List.getD (List.getD (arrF (D.I a) (D.L b) (D.I c) (D.I d)) (Int.toNat (D.I e)) []) 0 default) < (0 : Int))) (T.leaf [D.b true]) (T.leaf [D.b false])))) (T.leaf [D.b false])) (T.need (yes ((↑(0 + 1) : Int) = (1 : Int) ∧ netB (D.I a) (D.L b) = true ∧ (↑(Int.toNat (↑(List.length (wayX (D.I a) (D.L b) (D.I c) (D.I d) (D.I e))) : Int)) : Int) = (↑(List.length (wayX (D.I a) (D.L b) (D.I c) (D.I d) (D.I e))) : Int) ∧ okW (wayX (D.I a) (D.L b) (D.I c) (D.I d) (D.I e)) ∧ (0 : Int) ≤ (0 : Int) ∧ (0 : Int) ≤ (↑(List.length (wayX (D.I a) (D.L b) (D.I c) (D.I d) (D.I e))) : Int))) (T.ite (driveF (D.L b) (wayX (D.I a) (D.L b) (D.I c) (D.I d) (D.I e)) (Int.toNat (0 : Int)) (List.length (wayX (D.I a) (D.L b) (D.I c) (D.I d) (D.I e)) - Int.toNat (0 : Int)) (D.I c) (D.I d)).fst (T.ite ((driveF (D.L b) (wayX (D.I a) (D.L b) (D.I c) (D.I d) (D.I e)) (Int.toNat (0 : Int)) (List.length (wayX (D.I a) (D.L b) (D.I c) (D.I d) (D.I e)) - Int.toNat (0 : Int)) (D.I c) (D.I d)).snd.fst == D.I e) (T.ite ((driveF (D.L b) (wayX (D.I a) (D.L b) (D.I c) (D.I d) (D.I e)) (Int.toNat (0 : Int)) (List.length (wayX (D.I a) (D.L b) (D.I c) (D.I d) (D.I e)) - Int.toNat (0 : Int)) (D.I c) (D.I d)).snd.snd == timeX (D.I a) (D.L b) (D.I c) (D.I d) (D.I e)) (T.need (decide ((0 : Int) ≤ D.I e ∧ D.I e < (↑(Int.toNat (↑(Int.toNat (↑(Int.toNat (D.I a)) : Int)) : Int)) : Int))) (T.need (decide (Int.toNat (D.I e) < List.length (arrF (D.I a) (D.L b) (D.I c) (D.I d)))) (T.ite (timeX (D.I a) (D.L b) (D.I c) (D.I d) (D.I e) == D.I (List.getD (List.getD (arrF (D.I a) (D.L b) (D.I c) (D.I d)) (Int.toNat (D.I e)) []) 0 default)) (T.leaf [D.b true]) (T.leaf [D.b false])))) (T.leaf [D.b false])) (T.leaf [D.b false])) (T.leaf [D.b false])))) (T.leaf [D.b false]))))))) (T.ite (codeX (D.I a) (D.L b) (D.I c) (D.I d) (D.I e) != (0 : Int)) (T.ite (codeX (D.I a) (D.L b) (D.I c) (D.I d) (D.I e) == (5 : Int)) (T.need (decide ((0 : Int) ≤ D.I e ∧ D.I e < (↑(Int.toNat (D.I a)) : Int))) (T.need (decide (Int.toNat (D.I e) < List.length (arrF (D.I a) (D.L b) (D.I c) (D.I d)))) (T.ite (decide (D.I (List.getD (List.getD (arrF (D.I a) (D.L b) (D.I c) (D.I d)) (Int.toNat (D.I e)) []) 0 default) < (0 : Int))) (T.leaf [D.b true]) (T.leaf [D.b false])))) (T.leaf [D.b false])) (T.need (yes ((↑(0 + 1) : Int) = (1 : Int) ∧ netB (D.I a) (D.L b) = true ∧ (↑(Int.toNat (↑(List.length (wayX (D.I a) (D.L b) (D.I c) (D.I d) (D.I e))) : Int)) : Int) = (↑(List.length (wayX (D.I a) (D.L b) (D.I c) (D.I d) (D.I e))) : Int) ∧ okW (wayX (D.I a) (D.L b) (D.I c) (D.I d) (D.I e)) ∧ (0 : Int) ≤ (0 : Int) ∧ (0 : Int) ≤ (↑(List.length (wayX (D.I a) (D.L b) (D.I c) (D.I d) (D.I e))) : Int))) (T.ite (driveF (D.L b) (wayX (D.I a) (D.L b) (D.I c) (D.I d) (D.I e)) (Int.toNat (0 : Int)) (List.length (wayX (D.I a) (D.L b) (D.I c) (D.I d) (D.I e)) - Int.toNat (0 : Int)) (D.I c) (D.I d)).fst (T.ite ((driveF (D.L b) (wayX (D.I a) (D.L b) (D.I c) (D.I d) (D.I e)) (Int.toNat (0 : Int)) (List.length (wayX (D.I a) (D.L b) (D.I c) (D.I d) (D.I e)) - Int.toNat (0 : Int)) (D.I c) (D.I d)).snd.fst == D.I e) (T.ite ((driveF (D.L b) (wayX (D.I a) (D.L b) (D.I c) (D.I d) (D.I e)) (Int.toNat (0 : Int)) (List.length (wayX (D.I a) (D.L b) (D.I c) (D.I d) (D.I e)) - Int.toNat (0 : Int)) (D.I c) (D.I d)).snd.snd == timeX (D.I a) (D.L b) (D.I c) (D.I d) (D.I e)) (T.need (decide ((0 : Int) ≤ D.I e ∧ D.I e < (↑(Int.toNat (↑(Int.toNat (↑(Int.toNat (D.I a)) : Int)) : Int)) : Int))) (T.need (decide (Int.toNat (D.I e) < List.length (arrF (D.I a) (D.L b) (D.I c) (D.I d)))) (T.ite (timeX (D.I a) (D.L b) (D.I c) (D.I d) (D.I e) == D.I (List.getD (List.getD (arrF (D.I a) (D.L b) (D.I c) (D.I d)) (Int.toNat (D.I e)) []) 0 default)) (T.leaf [D.b true]) (T.leaf [D.b false])))) (T.leaf [D.b false])) (T.leaf [D.b false])) (T.leaf [D.b false]))))))))) (T.need (decide (List.length (D.L b) ≤ 2 ^ 62 ∧ List.length (D.L b) * Try.prog.types[44].bytes ≤ 2 ^ 47)) (T.need true (T.ite false (T.need (decide (List.length (D.L b) ≤ List.length (D.L b))) (T.ite (netB (D.I a) (List.take (List.length (D.L b)) (D.L b))) (T.need (decide (List.length (D.L b) ≤ List.length (D.L b))) (T.need (yes ((netB (D.I a) (List.take (List.length (D.L b)) (D.L b)) && nodeB (D.I a) (D.I c) (D.I d)) = true)) (T.ite false (T.leaf [D.b false]) (T.ite ((↑(Int.toNat (D.I a)) : Int) != D.I a) (T.leaf [D.b false]) (T.need (yes ((↑(0 + 1) : Int) = (1 : Int) ∧ ((1 : Int) ≤ D.I a ∧ D.I a ≤ (200 : Int)) ∧ (↑(Int.toNat (D.I a)) : Int) = D.I a ∧ (↑(Int.toNat (D.I a)) : Int) = D.I a ∧ (↑(List.length (arrF (D.I a) (D.L b) (D.I c) (D.I d))) : Int) = D.I a ∧ (↑(List.length (arrF (D.I a) (List.take (List.length (D.L b)) (D.L b)) (D.I c) (D.I d))) : Int) = D.I a ∧ ((0 : Int) ≤ (0 : Int) ∧ (0 : Int) ≤ D.I a) ∧ (↑(Int.toNat (↑(List.length (wayX (D.I a) (D.L b) (D.I c) (D.I d) (D.I e))) : Int)) : Int) = (↑(List.length (wayX (D.I a) (D.L b) (D.I c) (D.I d) (D.I e))) : Int))) (T.ite (allFrom (moreB (arrF (D.I a) (D.L b) (D.I c) (D.I d)) (arrF (D.I a) (List.take (List.length (D.L b)) (D.L b)) (D.I c) (D.I d))) (Int.toNat (0 : Int)) (Int.toNat (D.I a) - Int.toNat (0 : Int))) (T.ite (codeX (D.I a) (D.L b) (D.I c) (D.I d) (D.I e) != (0 : Int)) (T.ite (codeX (D.I a) (D.L b) (D.I c) (D.I d) (D.I e) == (5 : Int)) (T.need (decide ((0 : Int) ≤ D.I e ∧ D.I e < (↑(Int.toNat (D.I a)) : Int))) (T.need (decide (Int.toNat (D.I e) < List.length (arrF (D.I a) (D.L b) (D.I c) (D.I d)))) (T.ite (decide (D.I (List.getD (List.getD (arrF (D.I a) (D.L b) (D.I c) (D.I d)) (Int.toNat (D.I e)) []) 0 default) < (0 : Int))) (T.leaf [D.b true]) (T.leaf [D.b false])))) (T.leaf [D.b false])) (T.need (yes ((↑(0 + 1) : Int) = (1 : Int) ∧ netB (D.I a) (D.L b) = true ∧ (↑(Int.toNat (↑(List.length (wayX (D.I a) (D.L b) (D.I c) (D.I d) (D.I e))) : Int)) : Int) = (↑(List.length (wayX (D.I a) (D.L b) (D.I c) (D.I d) (D.I e))) : Int) ∧ okW (wayX (D.I a) (D.L b) (D.I c) (D.I d) (D.I e)) ∧ (0 : Int) ≤ (0 : Int) ∧ (0 : Int) ≤ (↑(List.length (wayX (D.I a) (D.L b) (D.I c) (D.I d) (D.I e))) : Int))) (T.ite (driveF (D.L b) (wayX (D.I a) (D.L b) (D.I c) (D.I d) (D.I e)) (Int.toNat (0 : Int)) (List.length (wayX (D.I a) (D.L b) (D.I c) (D.I d) (D.I e)) - Int.toNat (0 : Int)) (D.I c) (D.I d)).fst (T.ite ((driveF (D.L b) (wayX (D.I a) (D.L b) (D.I c) (D.I d) (D.I e)) (Int.toNat (0 : Int)) (List.length (wayX (D.I a) (D.L b) (D.I c) (D.I d) (D.I e)) - Int.toNat (0 : Int)) (D.I c) (D.I d)).snd.fst == D.I e) (T.ite ((driveF (D.L b) (wayX (D.I a) (D.L b) (D.I c) (D.I d) (D.I e)) (Int.toNat (0 : Int)) (List.length (wayX (D.I a) (D.L b) (D.I c) (D.I d) (D.I e)) - Int.toNat (0 : Int)) (D.I c) (D.I d)).snd.snd == timeX (D.I a) (D.L b) (D.I c) (D.I d) (D.I e)) (T.need (decide ((0 : Int) ≤ D.I e ∧ D.I e < (↑(Int.toNat (↑(Int.toNat (↑(Int.toNat (D.I a)) : Int)) : Int)) : Int))) (T.need (decide (Int.toNat (D.I e) < List.length (arrF (D.I a) (D.L b) (D.I c) (D.I d)))) (T.ite (timeX (D.I a) (D.L b) (D.I c) (D.I d) (D.I e) == D.I (List.getD (List.getD (arrF (D.I a) (D.L b) (D.I c) (D.I d)) (Int.toNat (D.I e)) []) 0 default)) (T.leaf [D.b true]) (T.leaf [D.b false])))) (T.leaf [D.b false])) (T.leaf [D.b false])) (T.leaf [D.b false])))) (T.leaf [D.b false]))))))) (T.ite (codeX (D.I a) (D.L b) (D.I c) (D.I d) (D.I e) != (0 : Int)) (T.ite (codeX (D.I a) (D.L b) (D.I c) (D.I d) (D.I e) == (5 : Int)) (T.need (decide ((0 : Int) ≤ D.I e ∧ D.I e < (↑(Int.toNat (D.I a)) : Int))) (T.need (decide (Int.toNat (D.I e) < List.length (arrF (D.I a) (D.L b) (D.I c) (D.I d)))) (T.ite (decide (D.I (List.getD (List.getD (arrF (D.I a) (D.L b) (D.I c) (D.I d)) (Int.toNat (D.I e)) []) 0 default) < (0 : Int))) (T.leaf [D.b true]) (T.leaf [D.b false])))) (T.leaf [D.b false])) (T.need (yes ((↑(0 + 1) : Int) = (1 : Int) ∧ netB (D.I a) (D.L b) = true ∧ (↑(Int.toNat (↑(List.length (wayX (D.I a) (D.L b) (D.I c) (D.I d) (D.I e))) : Int)) : Int) = (↑(List.length (wayX (D.I a) (D.L b) (D.I c) (D.I d) (D.I e))) : Int) ∧ okW (wayX (D.I a) (D.L b) (D.I c) (D.I d) (D.I e)) ∧ (0 : Int) ≤ (0 : Int) ∧ (0 : Int) ≤ (↑(List.length (wayX (D.I a) (D.L b) (D.I c) (D.I d) (D.I e))) : Int))) (T.ite (driveF (D.L b) (wayX (D.I a) (D.L b) (D.I c) (D.I d) (D.I e)) (Int.toNat (0 : Int)) (List.length (wayX (D.I a) (D.L b) (D.I c) (D.I d) (D.I e)) - Int.toNat (0 : Int)) (D.I c) (D.I d)).fst (T.ite ((driveF (D.L b) (wayX (D.I a) (D.L b) (D.I c) (D.I d) (D.I e)) (Int.toNat (0 : Int)) (List.length (wayX (D.I a) (D.L b) (D.I c) (D.I d) (D.I e)) - Int.toNat (0 : Int)) (D.I c) (D.I d)).snd.fst == D.I e) (T.ite ((driveF (D.L b) (wayX (D.I a) (D.L b) (D.I c) (D.I d) (D.I e)) (Int.toNat (0 : Int)) (List.length (wayX (D.I a) (D.L b) (D.I c) (D.I d) (D.I e)) - Int.toNat (0 : Int)) (D.I c) (D.I d)).snd.snd == timeX (D.I a) (D.L b) (D.I c) (D.I d) (D.I e)) (T.need (decide ((0 : Int) ≤ D.I e ∧ D.I e < (↑(Int.toNat (↑(Int.toNat (↑(Int.toNat (D.I a)) : Int)) : Int)) : Int))) (T.need (decide (Int.toNat (D.I e) < List.length (arrF (D.I a) (D.L b) (D.I c) (D.I d)))) (T.ite (timeX (D.I a) (D.L b) (D.I c) (D.I d) (D.I e) == D.I (List.getD (List.getD (arrF (D.I a) (D.L b) (D.I c) (D.I d)) (Int.toNat (D.I e)) []) 0 default)) (T.leaf [D.b true]) (T.leaf [D.b false])))) (T.leaf [D.b false])) (T.leaf [D.b false])) (T.leaf [D.b false])))))) (T.need (decide (List.length (D.L b) ≤ List.length (D.L b) ∧ List.length (D.L b) + List.length (List.take (List.length [[D.i (D.I g), D.i (D.I h), D.i (D.I i), D.l (D.L j)]]) [[D.i (D.I g), D.i (D.I h), D.i (D.I i), D.l (D.L j)]]) ≤ 2 ^ 62 ∧ (List.length (D.L b) + List.length (List.take (List.length [[D.i (D.I g), D.i (D.I h), D.i (D.I i), D.l (D.L j)]]) [[D.i (D.I g), D.i (D.I h), D.i (D.I i), D.l (D.L j)]])) * Try.prog.types[44].bytes ≤ 2 ^ 47)) (T.need (decide (List.length (D.L b) + List.length (List.take (List.length [[D.i (D.I g), D.i (D.I h), D.i (D.I i), D.l (D.L j)]]) [[D.i (D.I g), D.i (D.I h), D.i (D.I i), D.l (D.L j)]]) ≤ List.length (List.take (List.length (D.L b)) (D.L b) ++ List.take (List.length [[D.i (D.I g), D.i (D.I h), D.i (D.I i), D.l (D.L j)]]) [[D.i (D.I g), D.i (D.I h), D.i (D.I i), D.l (D.L j)]]))) (T.ite (netB (D.I a) (List.take (List.length (D.L b) + List.length (List.take (List.length [[D.i (D.I g), D.i (D.I h), D.i (D.I i), D.l (D.L j)]]) [[D.i (D.I g), D.i (D.I h), D.i (D.I i), D.l (D.L j)]])) (List.take (List.length (D.L b)) (D.L b) ++ List.take (List.length [[D.i (D.I g), D.i (D.I h), D.i (D.I i), D.l (D.L j)]]) [[D.i (D.I g), D.i (D.I h), D.i (D.I i), D.l (D.L j)]]))) (T.need (decide (List.length (D.L b) + List.length (List.take (List.length [[D.i (D.I g), D.i (D.I h), D.i (D.I i), D.l (D.L j)]]) [[D.i (D.I g), D.i (D.I h), D.i (D.I i), D.l (D.L j)]]) ≤ List.length (List.take (List.length (D.L b)) (D.L b) ++ List.take (List.length [[D.i (D.I g), D.i (D.I h), D.i (D.I i), D.l (D.L j)]]) [[D.i (D.I g), D.i (D.I h), D.i (D.I i), D.l (D.L j)]]))) (T.need (yes ((netB (D.I a) (List.take (List.length (D.L b) + List.length (List.take (List.length [[D.i (D.I g), D.i (D.I h), D.i (D.I i), D.l (D.L j)]]) [[D.i (D.I g), D.i (D.I h), D.i (D.I i), D.l (D.L j)]])) (List.take (List.length (D.L b)) (D.L b) ++ List.take (List.length [[D.i (D.I g), D.i (D.I h), D.i (D.I i), D.l (D.L j)]]) [[D.i (D.I g), D.i (D.I h), D.i (D.I i), D.l (D.L j)]])) && nodeB (D.I a) (D.I c) (D.I d)) = true)) (T.ite false (T.leaf [D.b false]) (T.ite ((↑(Int.toNat (D.I a)) : Int) != D.I a) (T.leaf [D.b false]) (T.need (yes ((↑(0 + 1) : Int) = (1 : Int) ∧ ((1 : Int) ≤ D.I a ∧ D.I a ≤ (200 : Int)) ∧ (↑(Int.toNat (D.I a)) : Int) = D.I a ∧ (↑(Int.toNat (D.I a)) : Int) = D.I a ∧ (↑(List.length (arrF (D.I a) (D.L b) (D.I c) (D.I d))) : Int) = D.I a ∧ (↑(List.length (arrF (D.I a) (List.take (List.length (D.L b) + List.length (List.take (List.length [[D.i (D.I g), D.i (D.I h), D.i (D.I i), D.l (D.L j)]]) [[D.i (D.I g), D.i (D.I h), D.i (D.I i), D.l (D.L j)]])) (List.take (List.length (D.L b)) (D.L b) ++ List.take (List.length [[D.i (D.I g), D.i (D.I h), D.i (D.I i), D.l (D.L j)]]) [[D.i (D.I g), D.i (D.I h), D.i (D.I i), D.l (D.L j)]])) (D.I c) (D.I d))) : Int) = D.I a ∧ ((0 : Int) ≤ (0 : Int) ∧ (0 : Int) ≤ D.I a) ∧ (↑(Int.toNat (↑(List.length (wayX (D.I a) (D.L b) (D.I c) (D.I d) (D.I e))) : Int)) : Int) = (↑(List.length (wayX (D.I a) (D.L b) (D.I c) (D.I d) (D.I e))) : Int))) (T.ite (allFrom (moreB (arrF (D.I a) (D.L b) (D.I c) (D.I d)) (arrF (D.I a) (List.take (List.length (D.L b) + List.length (List.take (List.length [[D.i (D.I g), D.i (D.I h), D.i (D.I i), D.l (D.L j)]]) [[D.i (D.I g), D.i (D.I h), D.i (D.I i), D.l (D.L j)]])) (List.take (List.length (D.L b)) (D.L b) ++ List.take (List.length [[D.i (D.I g), D.i (D.I h), D.i (D.I i), D.l (D.L j)]]) [[D.i (D.I g), D.i (D.I h), D.i (D.I i), D.l (D.L j)]])) (D.I c) (D.I d))) (Int.toNat (0 : Int)) (Int.toNat (D.I a) - Int.toNat (0 : Int))) (T.ite (codeX (D.I a) (D.L b) (D.I c) (D.I d) (D.I e) != (0 : Int)) (T.ite (codeX (D.I a) (D.L b) (D.I c) (D.I d) (D.I e) == (5 : Int)) (T.need (decide ((0 : Int) ≤ D.I e ∧ D.I e < (↑(Int.toNat (D.I a)) : Int))) (T.need (decide (Int.toNat (D.I e) < List.length (arrF (D.I a) (D.L b) (D.I c) (D.I d)))) (T.ite (decide (D.I (List.getD (List.getD (arrF (D.I a) (D.L b) (D.I c) (D.I d)) (Int.toNat (D.I e)) []) 0 default) < (0 : Int))) (T.leaf [D.b true]) (T.leaf [D.b false])))) (T.leaf [D.b false])) (T.need (yes ((↑(0 + 1) : Int) = (1 : Int) ∧ netB (D.I a) (D.L b) = true ∧ (↑(Int.toNat (↑(List.length (wayX (D.I a) (D.L b) (D.I c) (D.I d) (D.I e))) : Int)) : Int) = (↑(List.length (wayX (D.I a) (D.L b) (D.I c) (D.I d) (D.I e))) : Int) ∧ okW (wayX (D.I a) (D.L b) (D.I c) (D.I d) (D.I e)) ∧ (0 : Int) ≤ (0 : Int) ∧ (0 : Int) ≤ (↑(List.length (wayX (D.I a) (D.L b) (D.I c) (D.I d) (D.I e))) : Int))) (T.ite (driveF (D.L b) (wayX (D.I a) (D.L b) (D.I c) (D.I d) (D.I e)) (Int.toNat (0 : Int)) (List.length (wayX (D.I a) (D.L b) (D.I c) (D.I d) (D.I e)) - Int.toNat (0 : Int)) (D.I c) (D.I d)).fst (T.ite ((driveF (D.L b) (wayX (D.I a) (D.L b) (D.I c) (D.I d) (D.I e)) (Int.toNat (0 : Int)) (List.length (wayX (D.I a) (D.L b) (D.I c) (D.I d) (D.I e)) - Int.toNat (0 : Int)) (D.I c) (D.I d)).snd.fst == D.I e) (T.ite ((driveF (D.L b) (wayX (D.I a) (D.L b) (D.I c) (D.I d) (D.I e)) (Int.toNat (0 : Int)) (List.length (wayX (D.I a) (D.L b) (D.I c) (D.I d) (D.I e)) - Int.toNat (0 : Int)) (D.I c) (D.I d)).snd.snd == timeX (D.I a) (D.L b) (D.I c) (D.I d) (D.I e)) (T.need (decide ((0 : Int) ≤ D.I e ∧ D.I e < (↑(Int.toNat (↑(Int.toNat (↑(Int.toNat (D.I a)) : Int)) : Int)) : Int))) (T.need (decide (Int.toNat (D.I e) < List.length (arrF (D.I a) (D.L b) (D.I c) (D.I d)))) (T.ite (timeX (D.I a) (D.L b) (D.I c) (D.I d) (D.I e) == D.I (List.getD (List.getD (arrF (D.I a) (D.L b) (D.I c) (D.I d)) (Int.toNat (D.I e)) []) 0 default)) (T.leaf [D.b true]) (T.leaf [D.b false])))) (T.leaf [D.b false])) (T.leaf [D.b false])) (T.leaf [D.b false])))) (T.leaf [D.b false]))))))) (T.ite (codeX (D.I a) (D.L b) (D.I c) (D.I d) (D.I e) != (0 : Int)) (T.ite (codeX (D.I a) (D.L b) (D.I c) (D.I d) (D.I e) == (5 : Int)) (T.need (decide ((0 : Int) ≤ D.I e ∧ D.I e < (↑(Int.toNat (D.I a)) : Int))) (T.need (decide (Int.toNat (D.I e) < List.length (arrF (D.I a) (D.L b) (D.I c) (D.I d)))) (T.ite (decide (D.I (List.getD (List.getD (arrF (D.I a) (D.L b) (D.I c) (D.I d)) (Int.toNat (D.I e)) []) 0 default) < (0 : Int))) (T.leaf [D.b true]) (T.leaf [D.b false])))) (T.leaf [D.b false])) (T.need (yes ((↑(0 + 1) : Int) = (1 : Int) ∧ netB (D.I a) (D.L b) = true ∧ (↑(Int.toNat (↑(List.length (wayX (D.I a) (D.L b) (D.I c) (D.I d) (D.I e))) : Int)) : Int) = (↑(List.length (wayX (D.I a) (D.L b) (D.I c) (D.I d) (D.I e))) : Int) ∧ okW (wayX (D.I a) (D.L b) (D.I c) (D.I d) (D.I e)) ∧ (0 : Int) ≤ (0 : Int) ∧ (0 : Int) ≤ (↑(List.length (wayX (D.I a) (D.L b) (D.I c) (D.I d) (D.I e))) : Int))) (T.ite (driveF (D.L b) (wayX (D.I a) (D.L b) (D.I c) (D.I d) (D.I e)) (Int.toNat (0 : Int)) (List.length (wayX (D.I a) (D.L b) (D.I c) (D.I d) (D.I e)) - Int.toNat (0 : Int)) (D.I c) (D.I d)).fst (T.ite ((driveF (D.L b) (wayX (D.I a) (D.L b) (D.I c) (D.I d) (D.I e)) (Int.toNat (0 : Int)) (List.length (wayX (D.I a) (D.L b) (D.I c) (D.I d) (D.I e)) - Int.toNat (0 : Int)) (D.I c) (D.I d)).snd.fst == D.I e) (T.ite ((driveF (D.L b) (wayX (D.I a) (D.L b) (D.I c) (D.I d) (D.I e)) (Int.toNat (0 : Int)) (List.length (wayX (D.I a) (D.L b) (D.I c) (D.I d) (D.I e)) - Int.toNat (0 : Int)) (D.I c) (D.I d)).snd.snd == timeX (D.I a) (D.L b) (D.I c) (D.I d) (D.I e)) (T.need (decide ((0 : Int) ≤ D.I e ∧ D.I e < (↑(Int.toNat (↑(Int.toNat (↑(Int.toNat (D.I a)) : Int)) : Int)) : Int))) (T.need (decide (Int.toNat (D.I e) < List.length (arrF (D.I a) (D.L b) (D.I c) (D.I d)))) (T.ite (timeX (D.I a) (D.L b) (D.I c) (D.I d) (D.I e) == D.I (List.getD (List.getD (arrF (D.I a) (D.L b) (D.I c) (D.I d)) (Int.toNat (D.I e)) []) 0 default)) (T.leaf [D.b true]) (T.leaf [D.b false])))) (T.leaf [D.b false])) (T.leaf [D.b false])) (T.leaf [D.b false]))))))))))) (T.leaf [D.b false]))))))))))))))))) := by kernel_rfl
theorem t5_9_0 (a b c d e f g h i j k l m n o p : D) : roundT C tab5 5 (loopOf C.P 5 9) l5_9 [.i 0, a, b, c, d, e, f, g, h, i, j, k, l, m, n, o, p] =
  T.ite (decide (D.I h < D.I i)) (T.need (decide ((0 : Int) ≤ D.I h ∧ D.I h < (↑(Int.toNat (D.I f)) : Int))) (T.need (decide (Int.toNat (D.I h) < List.length (D.L o))) (T.need (decide ((0 : Int) ≤ D.I h ∧ D.I h < (↑(Int.toNat (D.I g)) : Int))) (T.need (decide (Int.toNat (D.I h) < List.length (D.L p))) (T.ite (!decide (D.I (List.getD (List.getD (D.L o) (Int.toNat (D.I h)) []) 0 default) < (0 : Int)) == decide (D.I (List.getD (List.getD (D.L p) (Int.toNat (D.I h)) []) 0 default) < (0 : Int))) (T.leaf (Rd.out Ex.ret [D.b false])) (T.need (decide ((0 : Int) ≤ D.I h ∧ D.I h < (↑(Int.toNat (D.I g)) : Int))) (T.need (decide (Int.toNat (D.I h) < List.length (D.L p))) (T.need (decide ((0 : Int) ≤ D.I h ∧ D.I h < (↑(Int.toNat (D.I f)) : Int))) (T.need (decide (Int.toNat (D.I h) < List.length (D.L o))) (T.ite (decide (D.I (List.getD (List.getD (D.L p) (Int.toNat (D.I h)) []) 0 default) < D.I (List.getD (List.getD (D.L o) (Int.toNat (D.I h)) []) 0 default))) (T.leaf (Rd.out Ex.ret [D.b false])) (T.leaf (Rd.again [D.i (0 : Int), D.i (D.I a), D.i (D.I b), D.i (D.I c), D.i (D.I d), D.i (D.I e), D.i (↑(Int.toNat (D.I f)) : Int), D.i (↑(Int.toNat (D.I g)) : Int), D.i (IntKind.wrap IntKind.i64 (D.I h + (1 : Int))), D.i (D.I i), D.l (D.L j), D.i (D.I k), D.i (D.I l), D.i (D.I m), D.l (D.L n), D.l (D.L o), D.l (D.L p)])))))))))))) (T.leaf (Rd.out (Ex.exit 0) [D.i (0 : Int), D.i (D.I a), D.i (D.I b), D.i (D.I c), D.i (D.I d), D.i (D.I e), D.i (↑(Int.toNat (D.I f)) : Int), D.i (D.I i), D.l (D.L j), D.i (D.I k), D.i (D.I l), D.i (D.I m), D.l (D.L n), D.l (D.L o)])) := by kernel_rfl
theorem t5_9_1 (a b c d e f g h i j k l m n o p q r : D) : roundT C tab5 5 (loopOf C.P 5 9) l5_9 [.i 1, a, b, c, d, e, f, g, h, i, j, k, l, m, n, o, p, q, r] =
  T.ite (decide (D.I i < D.I j)) (T.need (decide ((0 : Int) ≤ D.I i ∧ D.I i < (↑(Int.toNat (D.I g)) : Int))) (T.need (decide (Int.toNat (D.I i) < List.length (D.L q))) (T.need (decide ((0 : Int) ≤ D.I i ∧ D.I i < (↑(Int.toNat (D.I h)) : Int))) (T.need (decide (Int.toNat (D.I i) < List.length (D.L r))) (T.ite (!decide (D.I (List.getD (List.getD (D.L q) (Int.toNat (D.I i)) []) 0 default) < (0 : Int)) == decide (D.I (List.getD (List.getD (D.L r) (Int.toNat (D.I i)) []) 0 default) < (0 : Int))) (T.leaf (Rd.out Ex.ret [D.b false])) (T.need (decide ((0 : Int) ≤ D.I i ∧ D.I i < (↑(Int.toNat (D.I h)) : Int))) (T.need (decide (Int.toNat (D.I i) < List.length (D.L r))) (T.need (decide ((0 : Int) ≤ D.I i ∧ D.I i < (↑(Int.toNat (D.I g)) : Int))) (T.need (decide (Int.toNat (D.I i) < List.length (D.L q))) (T.ite (decide (D.I (List.getD (List.getD (D.L r) (Int.toNat (D.I i)) []) 0 default) < D.I (List.getD (List.getD (D.L q) (Int.toNat (D.I i)) []) 0 default))) (T.leaf (Rd.out Ex.ret [D.b false])) (T.leaf (Rd.again [D.i (1 : Int), D.i (D.I a), D.i (D.I b), D.i (D.I c), D.i (↑(Int.toNat (D.I d)) : Int), D.i (D.I e), D.i (D.I f), D.i (↑(Int.toNat (D.I g)) : Int), D.i (↑(Int.toNat (D.I h)) : Int), D.i (IntKind.wrap IntKind.i64 (D.I i + (1 : Int))), D.i (D.I j), D.l (D.L k), D.i (D.I l), D.i (D.I m), D.i (D.I n), D.l (D.L o), D.l (D.L p), D.l (D.L q), D.l (D.L r)])))))))))))) (T.leaf (Rd.out (Ex.exit 0) [D.i (1 : Int), D.i (D.I a), D.i (D.I b), D.i (D.I c), D.i (↑(Int.toNat (D.I d)) : Int), D.i (D.I e), D.i (D.I f), D.i (↑(Int.toNat (D.I g)) : Int), D.i (D.I j), D.l (D.L k), D.i (D.I l), D.i (D.I m), D.i (D.I n), D.l (D.L o), D.l (D.L p), D.l (D.L q)])) := by kernel_rfl
theorem t5_20_0 (a b c d e f g h i j k l : D) : roundT C tab5 5 (loopOf C.P 5 20) l5_20 [.i 0, a, b, c, d, e, f, g, h, i, j, k, l] =
  T.ite (decide (D.I h < D.I i)) (T.need (decide ((0 : Int) ≤ D.I h ∧ D.I h < (↑(Int.toNat (D.I f)) : Int))) (T.need (decide (Int.toNat (D.I h) < List.length (D.L k))) (T.ite (decide (D.I (List.getD (List.getD (D.L k) (Int.toNat (D.I h)) []) 0 default) ≥ (0 : Int))) (T.need (decide ((0 : Int) ≤ D.I h ∧ D.I h < (↑(Int.toNat (D.I g)) : Int))) (T.need (decide (Int.toNat (D.I h) < List.length (D.L l))) (T.ite (decide (D.I (List.getD (List.getD (D.L l) (Int.toNat (D.I h)) []) 0 default) < (0 : Int))) (T.leaf (Rd.out Ex.ret [D.b false])) (T.need (decide ((0 : Int) ≤ D.I h ∧ D.I h < (↑(Int.toNat (D.I g)) : Int))) (T.need (decide (Int.toNat (D.I h) < List.length (D.L l))) (T.need (decide ((0 : Int) ≤ D.I h ∧ D.I h < (↑(Int.toNat (D.I f)) : Int))) (T.need (decide (Int.toNat (D.I h) < List.length (D.L k))) (T.ite (decide (D.I (List.getD (List.getD (D.L l) (Int.toNat (D.I h)) []) 0 default) > D.I (List.getD (List.getD (D.L k) (Int.toNat (D.I h)) []) 0 default))) (T.leaf (Rd.out Ex.ret [D.b false])) (T.leaf (Rd.again [D.i (0 : Int), D.i (D.I a), D.i (D.I b), D.i (D.I c), D.i (D.I d), D.i (D.I e), D.i (↑(Int.toNat (D.I f)) : Int), D.i (↑(Int.toNat (D.I g)) : Int), D.i (IntKind.wrap IntKind.i64 (D.I h + (1 : Int))), D.i (D.I i), D.l (D.L j), D.l (D.L k), D.l (D.L l)])))))))))) (T.leaf (Rd.again [D.i (0 : Int), D.i (D.I a), D.i (D.I b), D.i (D.I c), D.i (D.I d), D.i (D.I e), D.i (↑(Int.toNat (D.I f)) : Int), D.i (↑(Int.toNat (D.I g)) : Int), D.i (IntKind.wrap IntKind.i64 (D.I h + (1 : Int))), D.i (D.I i), D.l (D.L j), D.l (D.L k), D.l (D.L l)]))))) (T.leaf (Rd.out (Ex.exit 2) [D.i (0 : Int), D.i (D.I a), D.i (D.I b), D.i (D.I c), D.i (D.I d), D.i (D.I e), D.i (↑(Int.toNat (D.I f)) : Int), D.i (D.I i), D.l (D.L j), D.l (D.L k)])) := by kernel_rfl
theorem t5_20_1 (a b c d e f g h i j k l m n : D) : roundT C tab5 5 (loopOf C.P 5 20) l5_20 [.i 1, a, b, c, d, e, f, g, h, i, j, k, l, m, n] =
  T.ite (decide (D.I i < D.I j)) (T.need (decide ((0 : Int) ≤ D.I i ∧ D.I i < (↑(Int.toNat (D.I g)) : Int))) (T.need (decide (Int.toNat (D.I i) < List.length (D.L m))) (T.ite (decide (D.I (List.getD (List.getD (D.L m) (Int.toNat (D.I i)) []) 0 default) ≥ (0 : Int))) (T.need (decide ((0 : Int) ≤ D.I i ∧ D.I i < (↑(Int.toNat (D.I h)) : Int))) (T.need (decide (Int.toNat (D.I i) < List.length (D.L n))) (T.ite (decide (D.I (List.getD (List.getD (D.L n) (Int.toNat (D.I i)) []) 0 default) < (0 : Int))) (T.leaf (Rd.out Ex.ret [D.b false])) (T.need (decide ((0 : Int) ≤ D.I i ∧ D.I i < (↑(Int.toNat (D.I h)) : Int))) (T.need (decide (Int.toNat (D.I i) < List.length (D.L n))) (T.need (decide ((0 : Int) ≤ D.I i ∧ D.I i < (↑(Int.toNat (D.I g)) : Int))) (T.need (decide (Int.toNat (D.I i) < List.length (D.L m))) (T.ite (decide (D.I (List.getD (List.getD (D.L n) (Int.toNat (D.I i)) []) 0 default) > D.I (List.getD (List.getD (D.L m) (Int.toNat (D.I i)) []) 0 default))) (T.leaf (Rd.out Ex.ret [D.b false])) (T.leaf (Rd.again [D.i (1 : Int), D.i (D.I a), D.i (D.I b), D.i (D.I c), D.i (↑(Int.toNat (D.I d)) : Int), D.i (D.I e), D.i (D.I f), D.i (↑(Int.toNat (D.I g)) : Int), D.i (↑(Int.toNat (D.I h)) : Int), D.i (IntKind.wrap IntKind.i64 (D.I i + (1 : Int))), D.i (D.I j), D.l (D.L k), D.l (D.L l), D.l (D.L m), D.l (D.L n)])))))))))) (T.leaf (Rd.again [D.i (1 : Int), D.i (D.I a), D.i (D.I b), D.i (D.I c), D.i (↑(Int.toNat (D.I d)) : Int), D.i (D.I e), D.i (D.I f), D.i (↑(Int.toNat (D.I g)) : Int), D.i (↑(Int.toNat (D.I h)) : Int), D.i (IntKind.wrap IntKind.i64 (D.I i + (1 : Int))), D.i (D.I j), D.l (D.L k), D.l (D.L l), D.l (D.L m), D.l (D.L n)]))))) (T.leaf (Rd.out (Ex.exit 2) [D.i (1 : Int), D.i (D.I a), D.i (D.I b), D.i (D.I c), D.i (↑(Int.toNat (D.I d)) : Int), D.i (D.I e), D.i (D.I f), D.i (↑(Int.toNat (D.I g)) : Int), D.i (D.I j), D.l (D.L k), D.l (D.L l), D.l (D.L m)])) := by kernel_rfl
theorem t5_28_0 (a b c d e f g h i : D) : roundT C tab5 5 (loopOf C.P 5 28) l5_28 [.i 0, a, b, c, d, e, f, g, h, i] =
  T.ite (decide (D.I f < (↑0 : Int))) T.fail (T.leaf (Rd.out (Ex.exit 4) [D.i (D.I a), D.i (D.I b), D.i (↑(Int.toNat (D.I c)) : Int), D.i (D.I d), D.i (D.I e), D.l (D.L i)])) := by kernel_rfl
theorem t5_28_1 (a b c d e f g h i j k : D) : roundT C tab5 5 (loopOf C.P 5 28) l5_28 [.i 1, a, b, c, d, e, f, g, h, i, j, k] =
  T.ite (decide (D.I g < (↑(Int.toNat (D.I b)) : Int))) (T.need (decide ((0 : Int) ≤ D.I g ∧ D.I g < (↑(Int.toNat (D.I b)) : Int))) (T.need (decide (Int.toNat (D.I g) < List.length (D.L j))) (T.ite (decide (D.I (List.getD (List.getD (D.L j) (Int.toNat (D.I g)) []) 0 default) < (0 : Int))) (T.leaf (Rd.out Ex.ret [D.b false])) (T.need (decide ((0 : Int) ≤ D.I g ∧ D.I g < (↑(Int.toNat (D.I b)) : Int))) (T.need (decide (Int.toNat (D.I g) < List.length (D.L j))) (T.ite (decide (D.I (List.getD (List.getD (D.L j) (Int.toNat (D.I g)) []) 0 default) ≥ (↑(List.length (D.L i)) : Int))) (T.leaf (Rd.out Ex.ret [D.b false])) (T.need (decide ((0 : Int) ≤ D.I g ∧ D.I g < (↑(Int.toNat (D.I b)) : Int))) (T.need (decide (Int.toNat (D.I g) < List.length (D.L j))) (T.need (decide ((0 : Int) ≤ D.I (List.getD (List.getD (D.L j) (Int.toNat (D.I g)) []) 0 default) ∧ D.I (List.getD (List.getD (D.L j) (Int.toNat (D.I g)) []) 0 default) < (↑(List.length (D.L i)) : Int))) (T.ite (D.I (List.getD (List.getD (D.L i) (Int.toNat (D.I (List.getD (List.getD (D.L j) (Int.toNat (D.I g)) []) 0 default))) []) 0 default) != D.I e) (T.leaf (Rd.out Ex.ret [D.b false])) (T.need (decide ((0 : Int) ≤ D.I g ∧ D.I g < (↑(Int.toNat (D.I b)) : Int))) (T.need (decide (Int.toNat (D.I g) < List.length (D.L j))) (T.ite (decide (D.I (List.getD (List.getD (D.L j) (Int.toNat (D.I g)) []) (0 + 1) default) < D.I f)) (T.leaf (Rd.out Ex.ret [D.b false])) (T.need (decide ((0 : Int) ≤ D.I g ∧ D.I g < (↑(Int.toNat (D.I b)) : Int))) (T.need (decide (Int.toNat (D.I g) < List.length (D.L j))) (T.need (yes (okT (D.I (List.getD (List.getD (D.L i) (Int.toNat (D.I (List.getD (List.getD (D.L j) (Int.toNat (D.I g)) []) 0 default))) []) (0 + 1 + 1) default)) ∧ okS (D.I (List.getD (List.getD (D.L j) (Int.toNat (D.I g)) []) (0 + 1) default)) ∧ okC (D.L (List.getD (List.getD (D.L i) (Int.toNat (D.I (List.getD (List.getD (D.L j) (Int.toNat (D.I g)) []) 0 default))) []) (0 + 1 + 1 + 1) default)))) (T.need (decide ((0 : Int) ≤ D.I g ∧ D.I g < (↑(Int.toNat (D.I b)) : Int))) (T.need (decide (Int.toNat (D.I g) < List.length (D.L j))) (T.ite (entF (D.L (List.getD (List.getD (D.L i) (Int.toNat (D.I (List.getD (List.getD (D.L j) (Int.toNat (D.I g)) []) 0 default))) []) (0 + 1 + 1 + 1) default)) (D.I (List.getD (List.getD (D.L i) (Int.toNat (D.I (List.getD (List.getD (D.L j) (Int.toNat (D.I g)) []) 0 default))) []) (0 + 1 + 1) default)) 0 (List.length (D.L (List.getD (List.getD (D.L i) (Int.toNat (D.I (List.getD (List.getD (D.L j) (Int.toNat (D.I g)) []) 0 default))) []) (0 + 1 + 1 + 1) default))) (D.I (List.getD (List.getD (D.L j) (Int.toNat (D.I g)) []) (0 + 1) default)) != D.I (List.getD (List.getD (D.L j) (Int.toNat (D.I g)) []) (0 + 1) default)) (T.leaf (Rd.out Ex.ret [D.b false])) (T.need (decide ((0 : Int) ≤ D.I g ∧ D.I g < (↑(Int.toNat (D.I b)) : Int))) (T.need (decide (Int.toNat (D.I g) < List.length (D.L j))) (T.leaf (Rd.again [D.i (1 : Int), D.i (D.I a), D.i (↑(Int.toNat (D.I b)) : Int), D.i (D.I c), D.i (↑(Int.toNat (D.I d)) : Int), D.i (D.I (List.getD (List.getD (D.L i) (Int.toNat (D.I (List.getD (List.getD (D.L j) (Int.toNat (D.I g)) []) 0 default))) []) (0 + 1) default)), D.i (IntKind.wrap IntKind.i64 (D.I (List.getD (List.getD (D.L j) (Int.toNat (D.I g)) []) (0 + 1) default) + D.I (List.getD (List.getD (D.L i) (Int.toNat (D.I (List.getD (List.getD (D.L j) (Int.toNat (D.I g)) []) 0 default))) []) (0 + 1 + 1) default))), D.i (IntKind.wrap IntKind.i64 (D.I g + (1 : Int))), D.i (D.I h), D.l (D.L i), D.l (D.L j), D.l (D.L k)]))))))))))))))))))))))) (T.leaf (Rd.out (Ex.exit 4) [D.i (D.I a), D.i (D.I c), D.i (↑(Int.toNat (D.I d)) : Int), D.i (D.I e), D.i (D.I f), D.l (D.L k)])) := by kernel_rfl
end Go.Proofs.Ytgmefblkmidglaa

namespace Go.Proofs.Ytgmefblkmidglaa
open Go.Lite
set_option linter.unusedVariables false
/-! ### When a road can be entered -/
theorem ent_free {l : List (List D)} {c : Int} (hl : ∀ i, i < l.length → clB l i = true) : ∀ (k i : Nat) (s : Int), i + k ≤ l.length → (∀ j, j < i → ¬ (s + c > ix (l.getD j []) 0 ∧ s < ix (l.getD j []) 1)) →
    ∀ j, j < i + k → ¬ (entF l c i k s + c > ix (l.getD j []) 0 ∧ entF l c i k s < ix (l.getD j []) 1)
  | 0, i, s, _, hs => hs
  | k + 1, i, s, hi, hs => by
    have hT : ∀ j, j < i → ix (l.getD j []) 1 < ix (l.getD i []) 1 := by
      have hsort : ∀ d j, j + d + 1 ≤ i → ix (l.getD j []) 1 < ix (l.getD (j + d + 1) []) 1 := fun d => by
        induction d with
        | zero =>
          intro j hj
          have := of_decide_eq_true (hl (j + 0 + 1) (by omega))
          have h4 := this.2.2.2 (by omega)
          rw [show j + 0 + 1 - 1 = j by omega] at h4
          omega
        | succ d ih =>
          intro j hj
          have h1 := ih j (by omega)
          have := of_decide_eq_true (hl (j + (d + 1) + 1) (by omega))
          have h4 := this.2.2.2 (by omega)
          rw [show j + (d + 1) + 1 - 1 = j + d + 1 by omega] at h4
          omega
      intro j hj
      have := hsort (i - j - 1) j (by omega)
      rwa [show j + (i - j - 1) + 1 = i by omega] at this
    have h := ent_free hl k (i + 1) (if s + c > ix (l.getD i []) 0 ∧ s < ix (l.getD i []) 1 then ix (l.getD i []) 1 else s) (by omega) (fun j hj => by
      by_cases e : j = i
      · subst e
        split <;> omega
      · have h1 := hs j (by omega)
        have h2 := hT j (by omega)
        split <;> omega)
    simp only [entF]
    intro j hj
    exact h j (by omega)
theorem ent_still {l : List (List D)} {c s : Int} : ∀ (k i : Nat), (∀ j, i ≤ j → j < i + k → ¬ (s + c > ix (l.getD j []) 0 ∧ s < ix (l.getD j []) 1)) → entF l c i k s = s
  | 0, _, _ => rfl
  | k + 1, i, h => by
    simp only [entF]
    rw [if_neg (h i (Nat.le_refl _) (by omega))]
    exact ent_still k (i + 1) fun j h1 h2 => h j (by omega) (by omega)
theorem ent_twice {n : Int} {c : List D} (h : roadB n c = true) (t : Int) : entW c (entW c t) = entW c t := by
  obtain ⟨-, -, -, -, h3⟩ := road_parts h
  unfold entW
  refine ent_still _ _ fun j _ hj => ?_
  exact ent_free h3 (lx c 3).length 0 t (by omega) (fun j hj => by omega) j hj
/-! ### The first hop -/
theorem chain_pick {E : Ed} {n : Nat} {H : Int} (hE : E.OK n H) {X : Nat → Nat → Int} {X' : Nat → Nat → Nat → Int} {v t : Int} {K : Nat} (hv : 0 ≤ v ∧ v < n) (ht : t < INF) (h0 : ∀ u, u < n → X 0 u = if u = v.toNat then t else INF) (h0' : ∀ i, i < E.m → E.fr i = v → ∀ u, u < n → X' i 0 u = if u = (E.to i).toNat then E.fn i t else INF)
    (hX : ∀ k, k < K → ExStep E n (X k) (X (k + 1))) (hX' : ∀ i, i < E.m → E.fr i = v → ∀ k, k < K → ExStep E n (X' i k) (X' i (k + 1))) : ∀ k, k < K → ∀ u, u < n → X (k + 1) u < INF → ∃ i, i < E.m ∧ E.fr i = v ∧ X' i k u ≤ X (k + 1) u
  | 0, hk, u, hu, hf => by
    rcases (hX 0 hk).at' u hu with h | ⟨j, h1, h2, h3, h4⟩
    · omega
    · have hfr := hE.fr j h1
      rw [h0 _ (by omega)] at h2 h4
      split at h2
      · rename_i e
        rw [if_pos e] at h4
        have hfv : E.fr j = v := by omega
        exact ⟨j, h1, hfv, by rw [h0' j h1 hfv u hu, if_pos h3.symm, h4]; exact Int.le_refl _⟩
      · omega
  | k + 1, hk, u, hu, hf => by
    rcases (hX (k + 1) hk).at' u hu with h | ⟨j, h1, h2, h3, h4⟩
    · omega
    · have hfr := hE.fr j h1
      obtain ⟨i, g1, g2, g3⟩ := chain_pick hE hv ht h0 h0' hX hX' k (by omega) (E.fr j).toNat (by omega) h2
      refine ⟨i, g1, g2, ?_⟩
      rw [h4, ← h3]
      exact Int.le_trans ((hX' i g1 g2 k (by omega)).le j h1 (by omega)) (hE.mono j h1 _ _ g3)
theorem xE_pick {n : Int} {r : List (List D)} {v t : Int} (hN : netB n r = true) (hv : 0 ≤ v ∧ v < n) (ht : 0 ≤ t ∧ t ≤ 1099511600000) {k : Nat} (hk : k < 1000) {u : Nat} (hu : u < n.toNat) (hf : xE n r v t (k + 1) u < INF) :
    ∃ i, i < r.length ∧ ix (r.getD i []) 0 = v ∧ xE n r (toR r i) (tmR r i t) k u ≤ xE n r v t (k + 1) u := by
  have p1 := (net_parts hN).1
  have hI : INF = 9223372036854775807 := rfl
  have hto : ∀ i, i < r.length → 0 ≤ toR r i ∧ toR r i < n := fun i hi => (road_parts ((net_parts hN).2.2 i hi)).2.1
  have htm : ∀ i, i < r.length → 0 ≤ tmR r i t ∧ tmR r i t ≤ 1099511627776 := fun i hi => by
    have hR := (net_parts hN).2.2 i hi
    have h1 := (road_parts hR).2.2.1
    have h2 := (entW_parts hR).2.1 t
    have h3 := (entW_parts hR).1 t
    unfold tmR
    omega
  exact chain_pick (E := edR r) (n := n.toNat) (edR_ok hN) (X := xE n r v t) (X' := fun i => xE n r (toR r i) (tmR r i t)) (K := 1000) (by omega) (by omega) (fun u hu => xE_zero hv hu) (fun i hi _ u hu => xE_zero (hto i hi) hu)
    (fun k hk => xE_step hN hv (by omega) (by omega)) (fun i hi _ k hk => xE_step hN (hto i hi) (htm i hi) (by omega)) k hk u hu hf
/-! ### Drives -/
theorem road_pick {p : Nat → Bool} : ∀ (m i : Nat), (∃ j, i ≤ j ∧ j < i + m ∧ p j = true) → ∃ x, roadF p i m = some x
  | 0, i, ⟨j, h1, h2, _⟩ => by omega
  | m + 1, i, ⟨j, h1, h2, h3⟩ => by
    simp only [roadF]
    split
    · exact ⟨i, rfl⟩
    · rename_i h
      exact road_pick m (i + 1) ⟨j, by
        have : j ≠ i := fun e => h (e ▸ h3)
        omega, by omega, h3⟩
/-- Each hop of a way can be taken, and the last one ends at the place in time. -/
theorem way_drive {n : Int} {r : List (List D)} {v0 t0 to best : Int} {d : Nat → Int} (hN : netB n r = true) (hL : Least (edR r) n.toNat v0 t0 d) (hto : 0 ≤ to ∧ to < n) (hb : 0 ≤ best ∧ best < INF) (hd : d to.toNat = best) :
    ∀ (l : Nat) (v t : Int) (w : List (List D)), l ≤ 1000 → 0 ≤ v ∧ v < n → 0 ≤ t → t + 10000 * l ≤ 10100000 → Walk (edR r) v0 t0 v t → qE n r to best l v t = true →
      (∀ i, 0 ≤ ix ((wayF r (qE n r to best) l v t).getD i []) 1 ∧ ix ((wayF r (qE n r to best) l v t).getD i []) 1 ≤ 10200000) ∧
      driveF r (w ++ wayF r (qE n r to best) l v t) w.length (wayF r (qE n r to best) l v t).length v t = (true, to, best)
  | 0, v, t, w, _, hv, ht0, ht1, hW, hq => by
    have hq : xE n r v t 0 to.toNat = best := by unfold qE at hq; rw [beq_iff_eq] at hq; exact hq
    rw [xE_zero hv (by omega)] at hq
    refine ⟨fun i => ?_, ?_⟩
    · simp only [wayF]
      have : ix (([] : List (List D)).getD i []) 1 = 0 := rfl
      omega
    · split at hq
      · rename_i e
        simp only [wayF, List.length_nil, driveF]
        rw [show v = to by omega, hq]
      · omega
  | l + 1, v, t, w, hl, hv, ht0, ht1, hW, hq => by
    have hq' : xE n r v t (l + 1) to.toNat = best := by unfold qE at hq; rw [beq_iff_eq] at hq; exact hq
    have hlow : ∀ {v t : Int}, 0 ≤ v ∧ v < n → 0 ≤ t ∧ t ≤ 1099511627776 → Walk (edR r) v0 t0 v t → ∀ j, j ≤ 1000 → best ≤ xE n r v t j to.toNat := fun {v t} hv ht hW j hj => by
      by_cases hf : xE n r v t j to.toNat < INF
      · have := hL.2.2 _ _ (walk_trans hW (xE_walk hN hv ht hj (by omega) hf))
        rw [show (((to.toNat : Nat) : Int)).toNat = to.toNat by omega] at this
        omega
      · omega
    have hstep : ∀ i, i < r.length → ix (r.getD i []) 0 = v → (0 ≤ toR r i ∧ toR r i < n) ∧ (0 ≤ tmR r i t ∧ tmR r i t + 10000 * l ≤ 10100000) ∧ Walk (edR r) v0 t0 (toR r i) (tmR r i t) := fun i hi hfr => by
      have hR := (net_parts hN).2.2 i hi
      have h1 := (road_parts hR).2.2.1
      have h2 := (entW_parts hR).2.1 t
      have h3 := (entW_parts hR).1 t
      exact ⟨(road_parts hR).2.1, by unfold tmR; omega, .step (j := i) (by show Walk (edR r) v0 t0 (ix (r.getD i []) 0) t; rw [hfr]; exact hW) hi⟩
    obtain ⟨i0, i1, i2, i3⟩ := xE_pick hN hv (t := t) (by omega) (k := l) (by omega) (u := to.toNat) (by omega) (by omega)
    obtain ⟨a1, a2, a3⟩ := hstep i0 i1 i2
    have hqi : qE n r to best l (toR r i0) (tmR r i0 t) = true := by
      have := hlow a1 (by omega) a3 l (by omega)
      unfold qE
      rw [beq_iff_eq]
      show xE n r (toR r i0) (tmR r i0 t) l to.toNat = best
      omega
    obtain ⟨x, hx⟩ := road_pick (p := fun i => decide (ix (r.getD i []) 0 = v) && qE n r to best l (ix (r.getD i []) 1) (entW (r.getD i []) t + ix (r.getD i []) 2)) r.length 0 ⟨i0, Nat.zero_le _, by omega, by
      rw [Bool.and_eq_true, decide_eq_true_iff]
      exact ⟨i2, hqi⟩⟩
    obtain ⟨-, x2, x3⟩ := road_some _ _ hx
    rw [Bool.and_eq_true, decide_eq_true_iff] at x3
    have hxl : x < r.length := by omega
    obtain ⟨b1, b2, b3⟩ := hstep x hxl x3.1
    have hR := (net_parts hN).2.2 x hxl
    have h2 := (entW_parts hR).2.1 t
    have h3 := (entW_parts hR).1 t
    obtain ⟨c1, c2⟩ := way_drive hN hL hto hb hd l (toR r x) (tmR r x t) (w ++ [[.i x, .i (entW (r.getD x []) t)]]) (by omega) b1 b2.1 b2.2 b3 x3.2
    simp only [wayF, hx]
    unfold toR tmR at c1 c2
    refine ⟨fun i => ?_, ?_⟩
    · cases i with
      | zero =>
        rw [List.getD_cons_zero]
        show 0 ≤ entW (r.getD x []) t ∧ entW (r.getD x []) t ≤ 10200000
        omega
      | succ i => rw [List.getD_cons_succ]; exact c1 i
    · simp only [List.length_cons, driveF]
      have hg : (w ++ [D.i x, D.i (entW (r.getD x []) t)] :: wayF r (qE n r to best) l (ix (r.getD x []) 1) (entW (r.getD x []) t + ix (r.getD x []) 2)).getD w.length [] = [D.i x, D.i (entW (r.getD x []) t)] := by
        rw [List.getD_eq_getElem?_getD, List.getElem?_append_right (Nat.le_refl _), Nat.sub_self]
        rfl
      rw [hg]
      have e0 : ix [D.i (x : Int), D.i (entW (r.getD x []) t)] 0 = x := rfl
      have e1 : ix [D.i (x : Int), D.i (entW (r.getD x []) t)] 1 = entW (r.getD x []) t := rfl
      have hh : hopB r [D.i x, D.i (entW (r.getD x []) t)] v t = true := by
        unfold hopB
        rw [e0, e1, Int.toNat_natCast]
        exact decide_eq_true ⟨by omega, x3.1, h3, ent_twice hR t⟩
      rw [if_pos hh, e0, e1, Int.toNat_natCast]
      rw [List.append_assoc, List.length_append] at c2
      exact c2
/-- A road more. -/
theorem walk_more {r : List (List D)} {c : List D} {v t w s : Int} (h : Walk (edR r) v t w s) : Walk (edR (r ++ [c])) v t w s := by
  have hg : ∀ j, j < r.length → (r ++ [c]).getD j [] = r.getD j [] := fun j hj => by
    rw [List.getD_eq_getElem?_getD, List.getElem?_append_left hj, ← List.getD_eq_getElem?_getD]
  induction h with
  | here => exact .here
  | @step s0 j hw hj ih =>
    have hj : j < r.length := hj
    have e1 : (edR r).fr j = (edR (r ++ [c])).fr j := by show ix (r.getD j []) 0 = ix ((r ++ [c]).getD j []) 0; rw [hg j hj]
    have e2 : (edR r).to j = (edR (r ++ [c])).to j := by show ix (r.getD j []) 1 = ix ((r ++ [c]).getD j []) 1; rw [hg j hj]
    have e3 : (edR r).fn j s0 = (edR (r ++ [c])).fn j s0 := by show entW (r.getD j []) s0 + ix (r.getD j []) 2 = entW ((r ++ [c]).getD j []) s0 + ix ((r ++ [c]).getD j []) 2; rw [hg j hj]
    rw [e2, e3]
    rw [e1] at ih
    exact .step ih (by show j < (r ++ [c]).length; rw [List.length_append]; omega)
end Go.Proofs.Ytgmefblkmidglaa

namespace Go.Proofs.Ytgmefblkmidglaa
open Go.Lite
set_option maxRecDepth 100000
set_option linter.unusedVariables false
theorem ok17x (n : Nat) : FnOK C (n + 7) 17 (mkF s17 G17x) := (ok17 n).mono fun args v hb h => by
  unfold mkF at h ⊢
  split at h
  · rename_i ds hds
    rw [T.run_map, Option.map_eq_some_iff] at h ⊢
    obtain ⟨r, hr, he⟩ := h
    refine ⟨r, ?_, he⟩
    unfold G17x at hr
    split at hr
    · rename_i n' r' v t
      obtain ⟨hp, hr⟩ := need_some hr
      rw [yes_iff] at hp
      unfold G17
      exact go_true hp hr
    · cases hr
  · cases h
theorem ok23x (n : Nat) : FnOK C (n + 7) 23 (mkF s23 G23x) := (ok23 n).mono fun args v hb h => by
  unfold mkF at h ⊢
  split at h
  · rename_i ds hds
    rw [T.run_map, Option.map_eq_some_iff] at h ⊢
    obtain ⟨r, hr, he⟩ := h
    refine ⟨r, ?_, he⟩
    unfold G23x at hr
    split at hr
    · rename_i n' r' v t to
      obtain ⟨hp, hr⟩ := need_some hr
      rw [yes_iff] at hp
      unfold G23
      refine go_true hp ?_
      unfold wayX timeX codeX at hr
      by_cases c : bestF n'.I r'.L v.I t.I to.I < 0
      · simp only [if_pos c] at hr
        exact go_pos c hr
      · simp only [if_neg c] at hr
        exact go_neg c hr
    · cases hr
  · cases h
def mu9 : List D → Nat
  | [_, _, _, _, _, _, _, _, i, n, _, _, _, _, _, _, _] => (n.I - i.I).toNat
  | [_, _, _, _, _, _, _, _, _, i, n, _, _, _, _, _, _, _, _] => (n.I - i.I).toNat
  | _ => 0
def mu20 : List D → Nat
  | [_, _, _, _, _, _, _, _, i, n, _, _, _] => (n.I - i.I).toNat
  | [_, _, _, _, _, _, _, _, _, i, n, _, _, _, _] => (n.I - i.I).toNat
  | _ => 0
def mu28 : List D → Nat
  | [_, _, _, _, _, _, _, i, _, _, w, _] => ((w.L.length : Int) - i.I).toNat
  | _ => 0
theorem ok5_9 (n : Nat) : LoopSim C (n + 12) 5 (loopOf C.P 5 9) (mkL l5_9 G5_9) := by
  refine loop_ofK hC (sp := sp5) (lp := lp5) (sw := sw5) ⟨ok15 (n + 11), ok19 (n + 9), ok20 (n + 11), ok23x (n + 5), ok17x (n + 5), ok25 (n + 11), trivial⟩ trivial 0 [] (by kernel_rfl) rfl (fun k hk => by cases hk) (by kernel_rfl) mu9 fun ds rr hh => ?_
  unfold G5_9 at hh
  split at hh
  · rename_i j v s to t e ma mb i n' r x1 x2 x3 xc a b
    obtain ⟨hp, hh⟩ := need_some hh
    rw [yes_iff] at hp
    obtain ⟨hj, hn0, hma, hmb, hal, hbl, hi⟩ := hp
    refine ⟨by rw [fuelC]; show (n'.I - i.I).toNat < _; omega, ?_⟩
    rw [roundTK_head (j := j) (n := 0) hj (by decide), show roundTK C (mkTab sp5 lp5 sw5) 5 (loopOf C.P 5 9) 0 l5_9 [.i 0, v, s, to, t, e, ma, mb, i, n', r, x1, x2, x3, xc, a, b] = _ from t5_9_0 v s to t e ma mb i n' r x1 x2 x3 xc a b]
    obtain ⟨k, hk⟩ : ∃ k : Nat, i.I = k := ⟨i.I.toNat, by omega⟩
    have hn : (n'.I.toNat : Int) = n'.I := by omega
    simp only [hk, hma, hmb, hn, Int.toNat_natCast, rg_def] at hh hi ⊢
    refine rd_if (fun hlt => ?_) fun hge => rd_out (all_end hh (by omega))
    obtain ⟨s1, s2⟩ := all_step hh (by omega : k < n'.I.toNat)
    have hmu : (n'.I - ((k + 1 : Nat) : Int)).toNat < (n'.I - i.I).toNat := by omega
    have hnext : laterB a.L b.L k = true → (G5_9 [.i 0, .i v.I, .i s.I, .i to.I, .i t.I, .i e.I, .i n'.I, .i n'.I, .i ((k + 1 : Nat) : Int), .i n'.I, .l r.L, .i x1.I, .i x2.I, .i x3.I, .l xc.L, .l a.L, .l b.L]).run = some rr := fun c => (need_yes ⟨rfl, hn0, rfl, rfl, hal, hbl, by simp only [I_i]; omega⟩).trans (s2 c)
    have e1 : laterB a.L b.L k = decide ((rg a.L k < 0 ↔ rg b.L k < 0) ∧ rg a.L k ≤ rg b.L k) := rfl
    rw [wrap_succ (by omega)]
    refine rd_dec (by omega) (rd_dec (by omega) (rd_dec (by omega) (rd_dec (by omega) (rd_not (fun c1 => rd_out (s1 ?_)) fun c1 => rd_dec (by omega) (rd_dec (by omega) (rd_dec (by omega) (rd_dec (by omega) (rd_if (fun c2 => rd_out (s1 (by rw [e1]; exact decide_eq_false (by omega)))) fun c2 => rd_again (hnext ?_) hmu))))))))
    · rw [e1]
      refine decide_eq_false fun h => ?_
      have : decide (rg a.L k < 0) = decide (rg b.L k < 0) := by
        by_cases h0 : rg a.L k < 0
        · rw [decide_eq_true h0, decide_eq_true (h.1.1 h0)]
        · rw [decide_eq_false h0, decide_eq_false fun h1 => h0 (h.1.2 h1)]
      rw [this] at c1
      simp at c1
    · rw [e1]
      have c1 : decide (rg a.L k < 0) = decide (rg b.L k < 0) := by simpa using c1
      have : rg a.L k < 0 ↔ rg b.L k < 0 := by
        constructor
        · intro h0
          rw [decide_eq_true h0] at c1
          exact of_decide_eq_true c1.symm
        · intro h0
          rw [decide_eq_true h0] at c1
          exact of_decide_eq_true c1
      exact decide_eq_true ⟨this, by omega⟩
  · rename_i j v s to m t e ma mb i n' r x1 x2 x3 xc w a b
    obtain ⟨hp, hh⟩ := need_some hh
    rw [yes_iff] at hp
    obtain ⟨hj, hn0, hma, hmb, hal, hbl, hi, hm⟩ := hp
    refine ⟨by rw [fuelC]; show (n'.I - i.I).toNat < _; omega, ?_⟩
    rw [roundTK_head (j := j) (n := 1) hj (by decide), show roundTK C (mkTab sp5 lp5 sw5) 5 (loopOf C.P 5 9) 0 l5_9 [.i 1, v, s, to, m, t, e, ma, mb, i, n', r, x1, x2, x3, xc, w, a, b] = _ from t5_9_1 v s to m t e ma mb i n' r x1 x2 x3 xc w a b]
    obtain ⟨k, hk⟩ : ∃ k : Nat, i.I = k := ⟨i.I.toNat, by omega⟩
    have hn : (n'.I.toNat : Int) = n'.I := by omega
    simp only [hk, hma, hmb, hn, hm, Int.toNat_natCast, rg_def] at hh hi ⊢
    refine rd_if (fun hlt => ?_) fun hge => rd_out (all_end hh (by omega))
    obtain ⟨s1, s2⟩ := all_step hh (by omega : k < n'.I.toNat)
    have hmu : (n'.I - ((k + 1 : Nat) : Int)).toNat < (n'.I - i.I).toNat := by omega
    have hnext : laterB a.L b.L k = true → (G5_9 [.i 1, .i v.I, .i s.I, .i to.I, .i w.L.length, .i t.I, .i e.I, .i n'.I, .i n'.I, .i ((k + 1 : Nat) : Int), .i n'.I, .l r.L, .i x1.I, .i x2.I, .i x3.I, .l xc.L, .l w.L, .l a.L, .l b.L]).run = some rr := fun c => (need_yes ⟨rfl, hn0, rfl, rfl, hal, hbl, by simp only [I_i]; omega, rfl⟩).trans (s2 c)
    have e1 : laterB a.L b.L k = decide ((rg a.L k < 0 ↔ rg b.L k < 0) ∧ rg a.L k ≤ rg b.L k) := rfl
    rw [wrap_succ (by omega)]
    refine rd_dec (by omega) (rd_dec (by omega) (rd_dec (by omega) (rd_dec (by omega) (rd_not (fun c1 => rd_out (s1 ?_)) fun c1 => rd_dec (by omega) (rd_dec (by omega) (rd_dec (by omega) (rd_dec (by omega) (rd_if (fun c2 => rd_out (s1 (by rw [e1]; exact decide_eq_false (by omega)))) fun c2 => rd_again (hnext ?_) hmu))))))))
    · rw [e1]
      refine decide_eq_false fun h => ?_
      have : decide (rg a.L k < 0) = decide (rg b.L k < 0) := by
        by_cases h0 : rg a.L k < 0
        · rw [decide_eq_true h0, decide_eq_true (h.1.1 h0)]
        · rw [decide_eq_false h0, decide_eq_false fun h1 => h0 (h.1.2 h1)]
      rw [this] at c1
      simp at c1
    · rw [e1]
      have c1 : decide (rg a.L k < 0) = decide (rg b.L k < 0) := by simpa using c1
      have : rg a.L k < 0 ↔ rg b.L k < 0 := by
        constructor
        · intro h0
          rw [decide_eq_true h0] at c1
          exact of_decide_eq_true c1.symm
        · intro h0
          rw [decide_eq_true h0] at c1
          exact of_decide_eq_true c1
      exact decide_eq_true ⟨this, by omega⟩
  · cases hh
theorem ok5_20 (n : Nat) : LoopSim C (n + 12) 5 (loopOf C.P 5 20) (mkL l5_20 G5_20) := by
  refine loop_ofK hC (sp := sp5) (lp := lp5) (sw := sw5) ⟨ok15 (n + 11), ok19 (n + 9), ok20 (n + 11), ok23x (n + 5), ok17x (n + 5), ok25 (n + 11), trivial⟩ trivial 0 [] (by kernel_rfl) rfl (fun k hk => by cases hk) (by kernel_rfl) mu20 fun ds rr hh => ?_
  unfold G5_20 at hh
  split at hh
  · rename_i j v s to t e ma mb i n' r a c
    obtain ⟨hp, hh⟩ := need_some hh
    rw [yes_iff] at hp
    obtain ⟨hj, hn0, hma, hmb, hal, hbl, hi⟩ := hp
    refine ⟨by rw [fuelC]; show (n'.I - i.I).toNat < _; omega, ?_⟩
    rw [roundTK_head (j := j) (n := 0) hj (by decide), show roundTK C (mkTab sp5 lp5 sw5) 5 (loopOf C.P 5 20) 0 l5_20 [.i 0, v, s, to, t, e, ma, mb, i, n', r, a, c] = _ from t5_20_0 v s to t e ma mb i n' r a c]
    obtain ⟨k, hk⟩ : ∃ k : Nat, i.I = k := ⟨i.I.toNat, by omega⟩
    have hn : (n'.I.toNat : Int) = n'.I := by omega
    simp only [hk, hma, hmb, hn, Int.toNat_natCast, rg_def] at hh hi ⊢
    refine rd_if (fun hlt => ?_) fun hge => rd_out (all_end hh (by omega))
    obtain ⟨s1, s2⟩ := all_step hh (by omega : k < n'.I.toNat)
    have hmu : (n'.I - ((k + 1 : Nat) : Int)).toNat < (n'.I - i.I).toNat := by omega
    have hnext : moreB a.L c.L k = true → (G5_20 [.i 0, .i v.I, .i s.I, .i to.I, .i t.I, .i e.I, .i n'.I, .i n'.I, .i ((k + 1 : Nat) : Int), .i n'.I, .l r.L, .l a.L, .l c.L]).run = some rr := fun c => (need_yes ⟨rfl, hn0, rfl, rfl, hal, hbl, by simp only [I_i]; omega⟩).trans (s2 c)
    have e1 : moreB a.L c.L k = decide (rg a.L k < 0 ∨ 0 ≤ rg c.L k ∧ rg c.L k ≤ rg a.L k) := rfl
    rw [wrap_succ (by omega)]
    exact rd_dec (by omega) (rd_dec (by omega) (rd_if (fun c1 => rd_dec (by omega) (rd_dec (by omega) (rd_if (fun c2 => rd_out (s1 (by rw [e1]; exact decide_eq_false (by omega)))) fun c2 =>
      rd_dec (by omega) (rd_dec (by omega) (rd_dec (by omega) (rd_dec (by omega) (rd_if (fun c3 => rd_out (s1 (by rw [e1]; exact decide_eq_false (by omega)))) fun c3 => rd_again (hnext (by rw [e1]; exact decide_eq_true (by omega))) hmu))))))) fun c1 => rd_again (hnext (by rw [e1]; exact decide_eq_true (by omega))) hmu))
  · rename_i j v s to m t e ma mb i n' r w a c
    obtain ⟨hp, hh⟩ := need_some hh
    rw [yes_iff] at hp
    obtain ⟨hj, hn0, hma, hmb, hal, hbl, hi, hm⟩ := hp
    refine ⟨by rw [fuelC]; show (n'.I - i.I).toNat < _; omega, ?_⟩
    rw [roundTK_head (j := j) (n := 1) hj (by decide), show roundTK C (mkTab sp5 lp5 sw5) 5 (loopOf C.P 5 20) 0 l5_20 [.i 1, v, s, to, m, t, e, ma, mb, i, n', r, w, a, c] = _ from t5_20_1 v s to m t e ma mb i n' r w a c]
    obtain ⟨k, hk⟩ : ∃ k : Nat, i.I = k := ⟨i.I.toNat, by omega⟩
    have hn : (n'.I.toNat : Int) = n'.I := by omega
    simp only [hk, hma, hmb, hn, hm, Int.toNat_natCast, rg_def] at hh hi ⊢
    refine rd_if (fun hlt => ?_) fun hge => rd_out (all_end hh (by omega))
    obtain ⟨s1, s2⟩ := all_step hh (by omega : k < n'.I.toNat)
    have hmu : (n'.I - ((k + 1 : Nat) : Int)).toNat < (n'.I - i.I).toNat := by omega
    have hnext : moreB a.L c.L k = true → (G5_20 [.i 1, .i v.I, .i s.I, .i to.I, .i w.L.length, .i t.I, .i e.I, .i n'.I, .i n'.I, .i ((k + 1 : Nat) : Int), .i n'.I, .l r.L, .l w.L, .l a.L, .l c.L]).run = some rr := fun c => (need_yes ⟨rfl, hn0, rfl, rfl, hal, hbl, by simp only [I_i]; omega, rfl⟩).trans (s2 c)
    have e1 : moreB a.L c.L k = decide (rg a.L k < 0 ∨ 0 ≤ rg c.L k ∧ rg c.L k ≤ rg a.L k) := rfl
    rw [wrap_succ (by omega)]
    exact rd_dec (by omega) (rd_dec (by omega) (rd_if (fun c1 => rd_dec (by omega) (rd_dec (by omega) (rd_if (fun c2 => rd_out (s1 (by rw [e1]; exact decide_eq_false (by omega)))) fun c2 =>
      rd_dec (by omega) (rd_dec (by omega) (rd_dec (by omega) (rd_dec (by omega) (rd_if (fun c3 => rd_out (s1 (by rw [e1]; exact decide_eq_false (by omega)))) fun c3 => rd_again (hnext (by rw [e1]; exact decide_eq_true (by omega))) hmu))))))) fun c1 => rd_again (hnext (by rw [e1]; exact decide_eq_true (by omega))) hmu))
  · cases hh
theorem ok5_28 (n : Nat) : LoopSim C (n + 12) 5 (loopOf C.P 5 28) (mkL l5_28 G5_28) := by
  refine loop_ofK hC (sp := sp5) (lp := lp5) (sw := sw5) ⟨ok15 (n + 11), ok19 (n + 9), ok20 (n + 11), ok23x (n + 5), ok17x (n + 5), ok25 (n + 11), trivial⟩ trivial 0 [] (by kernel_rfl) rfl (fun k hk => by cases hk) (by kernel_rfl) mu28 fun ds rr hh => ?_
  unfold G5_28 at hh
  split at hh
  · rename_i j to t ma v s i n' r a
    obtain ⟨hp, hh⟩ := need_some hh
    rw [yes_iff] at hp
    obtain ⟨hj, hi⟩ := hp
    refine ⟨by rw [fuelC]; show 0 < _; omega, ?_⟩
    rw [roundTK_head (j := j) (n := 0) hj (by decide), show roundTK C (mkTab sp5 lp5 sw5) 5 (loopOf C.P 5 28) 0 l5_28 [.i 0, to, t, ma, v, s, i, n', r, a] = _ from t5_28_0 to t ma v s i n' r a]
    exact rd_neg (by omega) (rd_out hh)
  · rename_i j to m t ma v s i n' r w a
    obtain ⟨hp, hh⟩ := need_some hh
    rw [yes_iff] at hp
    obtain ⟨hj, hN, hm, hW, hi⟩ := hp
    have hwl := hW.1
    refine ⟨by rw [fuelC]; show ((w.L.length : Int) - i.I).toNat < _; omega, ?_⟩
    rw [roundTK_head (j := j) (n := 1) hj (by decide), show roundTK C (mkTab sp5 lp5 sw5) 5 (loopOf C.P 5 28) 0 l5_28 [.i 1, to, m, t, ma, v, s, i, n', r, w, a] = _ from t5_28_1 to m t ma v s i n' r w a]
    obtain ⟨k, hk⟩ : ∃ k : Nat, i.I = k := ⟨i.I.toNat, by omega⟩
    simp only [hk, hm, Int.toNat_natCast, Nat.reduceAdd, ix_def, lx_def] at hh hi ⊢
    refine rd_if (fun hlt => ?_) fun hge => ?_
    · have hkl : k < w.L.length := by omega
      have hmu : ((w.L.length : Int) - ((k + 1 : Nat) : Int)).toNat < ((w.L.length : Int) - i.I).toNat := by omega
      have hAt := hW.2 k
      rw [show w.L.length - k = (w.L.length - (k + 1)) + 1 by omega] at hh
      simp only [driveF] at hh
      have hno : hopB r.L (w.L.getD k []) v.I s.I = false → some (Ex.ret, [D.b false]) = some rr := fun c => by
        rw [c] at hh
        exact hh
      have hye : hopB r.L (w.L.getD k []) v.I s.I = true → (G5_28 [.i 1, .i to.I, .i w.L.length, .i t.I, .i (ma.I.toNat : Int), .i (ix (r.L.getD (ix (w.L.getD k []) 0).toNat []) 1), .i (ix (w.L.getD k []) 1 + ix (r.L.getD (ix (w.L.getD k []) 0).toNat []) 2), .i ((k + 1 : Nat) : Int), .i n'.I, .l r.L, .l w.L, .l a.L]).run = some rr := fun c => by
        rw [c] at hh
        refine (need_yes ⟨rfl, hN, rfl, hW, by simp only [I_i, L_l]; omega⟩).trans ?_
        simp only [I_i, L_l, Int.toNat_natCast]
        exact hh
      have e1 : hopB r.L (w.L.getD k []) v.I s.I = decide ((0 ≤ ix (w.L.getD k []) 0 ∧ ix (w.L.getD k []) 0 < r.L.length) ∧ ix (r.L.getD (ix (w.L.getD k []) 0).toNat []) 0 = v.I ∧ s.I ≤ ix (w.L.getD k []) 1 ∧ entW (r.L.getD (ix (w.L.getD k []) 0).toNat []) (ix (w.L.getD k []) 1) = ix (w.L.getD k []) 1) := rfl
      rw [wrap_succ (by omega)]
      refine rd_dec (by omega) (rd_dec (by omega) (rd_if (fun c1 => rd_out (hno (by rw [e1]; exact decide_eq_false (by omega)))) fun c1 => rd_dec (by omega) (rd_dec (by omega) (rd_if (fun c2 => rd_out (hno (by rw [e1]; exact decide_eq_false (by omega)))) fun c2 => ?_))))
      have hR := (net_parts hN).2.2 (ix (w.L.getD k []) 0).toNat (by omega)
      obtain ⟨o1, o2⟩ := road_okC hR
      have q3 := (road_parts hR).2.2.1
      refine rd_dec (by omega) (rd_dec (by omega) (rd_dec (by omega) (rd_ite (fun c3 => rd_out (hno (by rw [e1]; exact decide_eq_false fun h => (bne_iff_ne.1 c3) h.2.1))) fun c3 => ?_)))
      have c3 : ix (r.L.getD (ix (w.L.getD k []) 0).toNat []) 0 = v.I := by simpa using c3
      refine rd_dec (by omega) (rd_dec (by omega) (rd_if (fun c4 => rd_out (hno (by rw [e1]; exact decide_eq_false (by omega)))) fun c4 => ?_))
      refine rd_dec (by omega) (rd_dec (by omega) (rd_yes ⟨o1, by unfold okS; omega, o2⟩ (rd_dec (by omega) (rd_dec (by omega) (rd_ite (fun c5 => rd_out (hno ?_)) fun c5 => ?_)))))
      · rw [e1]
        exact decide_eq_false fun h => (bne_iff_ne.1 c5) h.2.2.2
      · have c5 : entW (r.L.getD (ix (w.L.getD k []) 0).toNat []) (ix (w.L.getD k []) 1) = ix (w.L.getD k []) 1 := by unfold entW; simpa using c5
        rw [wrap_id (x := ix (w.L.getD k []) 1 + ix (r.L.getD (ix (w.L.getD k []) 0).toNat []) 2) (by omega) (by omega)]
        exact rd_dec (by omega) (rd_dec (by omega) (rd_again (hye (by rw [e1]; exact decide_eq_true ⟨by omega, c3, by omega, c5⟩)) hmu))
    · rw [show w.L.length - k = 0 by omega] at hh
      exact rd_out hh
  · cases hh
end Go.Proofs.Ytgmefblkmidglaa

namespace Go.Proofs.Ytgmefblkmidglaa
open Go.Lite Go.ChangeShapes Go.WideShapes Go.ChangeAt Go.RowKit

def rescueDrivesLaw : Prop := ∀ xs : List AV, ArgsShape Try.prog 12 [24, 3, 3, 3, 3, 44] xs → ∃ n h', callA C n Unit none 5 xs [] () = some (.bool true, h', ())
theorem rescueDrives_plain : ∀ t ∈ [24, 3, 3, 3, 3, 44], plainTy Try.prog 12 t = true := by
  intro t ht
  have h : [24, 3, 3, 3, 3, 44].all (plainTy Try.prog 12) = true := by kernel_rfl
  exact List.all_eq_true.1 h t ht
set_option maxRecDepth 100000 in
theorem rescueDrives_lifted (law : rescueDrivesLaw) (os : Os) (started : os.Started) (H : Type) (enc : TypeId × Value → H) :
    ReturnsInHanded {} Try.checked os 5 .any (Rows.rescueDrivesSpec.pre6 enc Try.prog Try.f5 Rows.rescueDrivesRow.domain false) (Rows.rescueDrivesSpec.post enc Try.prog Try.f5 false true false false) := by
  refine returnsInHanded_of_change (C := Try.checked) own started (by kernel_rfl) Try.func5
    (ChangeSpec.witness6 (enc := enc) (C := Try.checked) false ⟨#[], #[.agg #[.int .i64 0, .slice none 0 0], .int .i64 0, .int .i64 0, .int .i64 0, .int .i64 0, .agg #[.int .i64 0, .int .i64 0, .int .i64 0, .slice none 0 0]], []⟩ 8 (by kernel_rfl) (by kernel_rfl) (by kernel_rfl) (by kernel_rfl)) ?_
  intro W base args ds gs before hval0 hW hcnd _
  have hval : ∀ (j : Nat) t v, Try.f5.params[j]? = some t → args[j]? = some v → Value.okWide Try.prog W .any base t v := hval0
  have hW' := hW
  obtain ⟨p, q, hA0, hV, rfl, hfz, hnd⟩ := hW
  have hA : DataW.TrodAll enc Try.prog W 0 (fun _ => true) true Try.f5.params.toList args.toList ds p := hA0
  have hAk := hA
  rw [Try.params5] at hA hval
  obtain ⟨xs, hs, hr⟩ := args_shape (J := fun _ => False) (d := 12) (fun t ht => rescueDrives_plain t (by simpa using ht)) (fun j t v h1 h2 => hval j t v (by simpa using h1) (by simpa using h2)) hA
  obtain ⟨n, h', hc⟩ := law xs hs
  obtain ⟨v0, vs0, d0, ds0, p0, q0, hargs, rfl, rfl, h0, r0⟩ := trodAll_cons hA
  obtain ⟨v1, vs1, d1, ds1, p1, q1, rfl, rfl, rfl, h1, r1⟩ := trodAll_cons r0
  obtain ⟨v2, vs2, d2, ds2, p2, q2, rfl, rfl, rfl, h2, r2⟩ := trodAll_cons r1
  obtain ⟨v3, vs3, d3, ds3, p3, q3, rfl, rfl, rfl, h3, r3⟩ := trodAll_cons r2
  obtain ⟨v4, vs4, d4, ds4, p4, q4, rfl, rfl, rfl, h4, r4⟩ := trodAll_cons r3
  obtain ⟨v5, vs5, d5, ds5, p5, q5, rfl, rfl, rfl, h5, r5⟩ := trodAll_cons r4
  obtain ⟨rfl, rfl, rfl⟩ := trodAll_nil r5
  obtain rfl : args = #[v0, v1, v2, v3, v4, v5] := by cases args; simp_all
  obtain ⟨rfl, rfl⟩ := trodVars_none hV
  clear hA0 hval0
  simp only [List.append_nil] at hW'
  refine (law_calls (callsOk n) hc hr).mono fun e W' ⟨he, h1, h2, hk⟩ => ?_
  subst he
  have hlt : ∀ x ∈ p0 ++ p1 ++ p2 ++ p3 ++ p4 ++ p5, x.block < W.heap.size := fun x hx => hW'.lt x (by simpa [List.append_assoc] using hx)
  exact ⟨_, rfl, post_of_kept (pa := p0 ++ p1 ++ p2 ++ p3 ++ p4 ++ p5) (pv := []) hW' (fun _ _ _ => trodAll_mk1 (shut_bool Try.underlying4 _))
    (fun sp hsp => trodAll_carry (DataW.TrodAll.respare kids full (by rw [Try.params5]; decide) (by simpa [List.append_assoc, Rows.rescueDrivesSpec] using hAk) (fun x hx => hsp x (by simpa [List.append_assoc] using hx))) (fun x hx => sameAt_of (hk _ (hlt x hx))))
    (fun _ _ => rfl) (by simp [List.append_assoc]) h1 h2 hk (ok_one (by kernel_rfl) rfl (okWide_bool_mk Try.underlying4 _))⟩
theorem rescueDrives_over (law : rescueDrivesLaw) : Rows.RescueDrivesSaid :=
  OpenClaim.holds_of_wide 5 Try.f5 rfl rfl rfl rfl rfl rfl rfl ⟨rfl, rfl, rfl, rfl, rfl⟩ rfl rfl rfl rfl rfl (by kernel_rfl) Try.func5 (by kernel_rfl)
    (of_decide_eq_true (by kernel_rfl)) (by unfold Func.isWrapper; first | (rw [if_pos (by decide +kernel)]; kernel_rfl) | (rw [if_neg (by decide +kernel)]; exact ⟨rfl, rfl⟩))
    (fun os started H enc _ => rescueDrives_lifted law os started H enc)
end Go.Proofs.Ytgmefblkmidglaa

namespace Go.Proofs.Ytgmefblkmidglaa
open Go.Lite
set_option maxRecDepth 100000
set_option linter.unusedVariables false
theorem way_len' {r : List (List D)} {q : Nat → Int → Int → Bool} : ∀ (l : Nat) (v t : Int), (wayF r q l v t).length ≤ l
  | 0, _, _ => Nat.le_refl _
  | l + 1, v, t => by
    simp only [wayF]
    split
    · have := way_len' (r := r) (q := q) l v t
      omega
    · rename_i i _
      have := way_len' (r := r) (q := q) l (ix (r.getD i []) 1) (entW (r.getD i []) t + ix (r.getD i []) 2)
      simp only [List.length_cons]
      omega
theorem go_later {E : Ed} {n : Nat} {H : Int} (hE : E.OK n H) {v t t' w s : Int} (h : Walk E v t w s) (ht : t ≤ t') : ∃ s', Walk E v t' w s' ∧ s ≤ s' ∧ s' ≤ max t' H + 10000 * (s - t) := by
  induction h with
  | here => exact ⟨t', .here, ht, by omega⟩
  | @step s0 j hw hj ih =>
    obtain ⟨s', h1, h2, h3⟩ := ih
    have h4 := walk_lo hE hw
    have h5 := hE.up j hj s0
    have h6 := hE.bnd j hj s'
    exact ⟨_, .step h1 hj, hE.mono j hj _ _ h2, by omega⟩
theorem go_sooner {E : Ed} {n : Nat} {H : Int} (hE : E.OK n H) {v t t' w s : Int} (h : Walk E v t' w s) : t ≤ t' → ∃ s', Walk E v t w s' ∧ s' ≤ s := by
  intro ht
  induction h with
  | here => exact ⟨t, .here, ht⟩
  | @step s0 j hw hj ih =>
    obtain ⟨s', h1, h2⟩ := ih
    exact ⟨_, .step h1 hj, hE.mono j hj _ _ h2⟩
section
variable {n : Int} {r : List (List D)} {v s s' : Int}
theorem arr_d (hN : netB n r = true) (hv : 0 ≤ v ∧ v < n) (hs : 0 ≤ s ∧ s ≤ 100000) : ∃ d, Least (edR r) n.toNat v s d ∧ ∀ u, u < n.toNat → -1 ≤ rg (arrF n r v s) u ∧ rg (arrF n r v s) u ≤ 1099521627776 ∧ ((0 ≤ rg (arrF n r v s) u ∧ rg (arrF n r v s) u = d u ∧ d u < INF) ∨ (rg (arrF n r v s) u < 0 ∧ d u = INF)) := by
  obtain ⟨o1, d, hL, hd⟩ := arr_ok hN hv hs
  refine ⟨d, hL, fun u hu => ?_⟩
  have h1 := hd u hu
  have h2 := o1.2 u
  have hI : INF = 9223372036854775807 := rfl
  unfold cv at h1
  split at h1 <;> omega
theorem arr_later (hN : netB n r = true) (hv : 0 ≤ v ∧ v < n) (hs : 0 ≤ s) (hss : s ≤ s') (hs' : s' ≤ 100000) : allFrom (laterB (arrF n r v s) (arrF n r v s')) 0 n.toNat = true := by
  obtain ⟨d, hL, hd⟩ := arr_d hN hv (s := s) (by omega)
  obtain ⟨d', hL', hd'⟩ := arr_d hN hv (s := s') (by omega)
  have hI : INF = 9223372036854775807 := rfl
  rw [allFrom_iff]
  intro u _ hu
  have hu : u < n.toNat := by omega
  obtain ⟨a1, a2, a3⟩ := hd u hu
  obtain ⟨b1, b2, b3⟩ := hd' u hu
  have h1 : d u < INF → d' u < INF := fun h => by
    obtain ⟨x, h2, h3, h4⟩ := go_later (edR_ok hN) (hL.2.1 u hu h) hss
    have h5 := hL'.2.2 _ _ h2
    rw [Int.toNat_natCast] at h5
    omega
  have h2 : d' u < INF → d u ≤ d' u := fun h => by
    obtain ⟨x, h2, h3⟩ := go_sooner (edR_ok hN) (hL'.2.1 u hu h) hss
    have h5 := hL.2.2 _ _ h2
    rw [Int.toNat_natCast] at h5
    omega
  unfold laterB
  exact decide_eq_true ⟨by omega, by omega⟩
theorem arr_more {c : List D} (hN : netB n r = true) (hN' : netB n (r ++ [c]) = true) (hv : 0 ≤ v ∧ v < n) (hs : 0 ≤ s ∧ s ≤ 100000) : allFrom (moreB (arrF n r v s) (arrF n (r ++ [c]) v s)) 0 n.toNat = true := by
  obtain ⟨d, hL, hd⟩ := arr_d hN hv hs
  obtain ⟨d', hL', hd'⟩ := arr_d hN' hv hs
  have hI : INF = 9223372036854775807 := rfl
  rw [allFrom_iff]
  intro u _ hu
  have hu : u < n.toNat := by omega
  obtain ⟨a1, a2, a3⟩ := hd u hu
  obtain ⟨b1, b2, b3⟩ := hd' u hu
  have h1 : d u < INF → d' u ≤ d u := fun h => by
    have h5 := hL'.2.2 _ _ (walk_more (c := c) (hL.2.1 u hu h))
    rwa [Int.toNat_natCast] at h5
  unfold moreB
  exact decide_eq_true (by omega)
end
theorem law5 (a b c d e f g h i j : D) : (fnT C (mkTab sp5 lp5 sw5) 5 s5 [a, b, c, d, e, f, g, h, i, j]).run = some [D.b true] := by
  have hby : Try.prog.types[44].bytes = 48 := by kernel_rfl
  refine (congrArg T.run (t5 a b c d e f g h i j)).trans (go_not (fun _ => rfl) fun _ => go_not (fun _ => rfl) fun hN => go_not (fun _ => rfl) fun hO => go_not (fun _ => rfl) fun hT => go_if (fun _ => rfl) fun h1 => go_if (fun _ => rfl) fun h2 => go_if (fun _ => rfl) fun h3 => ?_)
  obtain ⟨p1, p2, p3⟩ := net_parts hN
  obtain ⟨hv, ht⟩ := node_iff.1 hO
  have hto := node0_iff.1 hT
  rw [wrap_id (by omega) (by omega)] at h2
  have hw2 : IntKind.i64.wrap (d.I + f.I) = d.I + f.I := wrap_id (by omega) (by omega)
  have hn : (a.I.toNat : Int) = a.I := by omega
  have hO2 : nodeB a.I c.I (d.I + f.I) = true := node_iff.2 (by omega)
  have hal := (arr_ok hN hv ht).1.1
  have hbl := (arr_ok hN hv (t := d.I + f.I) (by omega)).1.1
  have hlater := arr_later hN hv ht.1 (by omega : d.I ≤ d.I + f.I) (by omega)
  have hmore : ∀ {x : List D}, netB a.I (b.L ++ [x]) = true → ((arrF a.I (b.L ++ [x]) c.I d.I).length : Int) = a.I ∧ allFrom (moreB (arrF a.I b.L c.I d.I) (arrF a.I (b.L ++ [x]) c.I d.I)) 0 a.I.toNat = true := fun hR => ⟨(arr_ok hR hv ht).1.1, arr_more hN hR hv ht⟩
  have hbest : rg (arrF a.I b.L c.I d.I) e.I.toNat = bestF a.I b.L c.I d.I e.I := rfl
  have hcode : (codeX a.I b.L c.I d.I e.I != 0) = true → (codeX a.I b.L c.I d.I e.I == 5) = true ∧ bestF a.I b.L c.I d.I e.I < 0 := fun h => by
    unfold codeX at h ⊢
    split at h
    · rename_i hb
      rw [if_pos hb]
      exact ⟨rfl, hb⟩
    · cases h
  have hway : (codeX a.I b.L c.I d.I e.I != 0) = false → wayX a.I b.L c.I d.I e.I = progW a.I b.L c.I d.I e.I ∧ timeX a.I b.L c.I d.I e.I = bestF a.I b.L c.I d.I e.I ∧ okW (wayX a.I b.L c.I d.I e.I) ∧
      driveF b.L (wayX a.I b.L c.I d.I e.I) 0 (wayX a.I b.L c.I d.I e.I).length c.I d.I = (true, e.I, bestF a.I b.L c.I d.I e.I) := fun h => by
    unfold codeX at h
    split at h
    · cases h
    · rename_i hb
      obtain ⟨b1, b2, b3, b4, b5⟩ := ways_same hN hv ht hto (by omega)
      obtain ⟨o1, d', hL, hd⟩ := arr_ok hN hv ht
      have hI : INF = 9223372036854775807 := rfl
      have hub := (o1.2 e.I.toNat).2
      have hd' : d' e.I.toNat = bestF a.I b.L c.I d.I e.I := by
        rw [← hd _ (by omega)]
        unfold cv bestF at *
        rw [if_neg (by omega)]
      obtain ⟨l, q1, q2, q3⟩ := b2
      have hq := (seek_spec (p := fun l => qE a.I b.L e.I (bestF a.I b.L c.I d.I e.I) l c.I d.I) (1000 - 0) 0 ⟨l, q1, by omega, q3⟩).1
      have hq : qE a.I b.L e.I (bestF a.I b.L c.I d.I e.I) (hopsE a.I b.L c.I d.I e.I (bestF a.I b.L c.I d.I e.I) 0) c.I d.I = true := hq
      obtain ⟨w1, w2⟩ := way_drive hN hL hto ⟨by omega, by unfold bestF; omega⟩ hd' _ c.I d.I [] b5 hv ht.1 (by omega) .here hq
      have hl := way_len' (r := b.L) (q := qE a.I b.L e.I (bestF a.I b.L c.I d.I e.I)) (hopsE a.I b.L c.I d.I e.I (bestF a.I b.L c.I d.I e.I) 0) c.I d.I
      have hx : wayX a.I b.L c.I d.I e.I = progW a.I b.L c.I d.I e.I := by unfold wayX; rw [if_neg hb]
      rw [hx]
      refine ⟨rfl, by unfold timeX; rw [if_neg hb], ⟨?_, fun i => ?_⟩, w2⟩
      · show (wayF b.L _ _ c.I d.I).length ≤ 1000
        omega
      · have := w1 i
        have e1 : progW a.I b.L c.I d.I e.I = wayF b.L (qE a.I b.L e.I (bestF a.I b.L c.I d.I e.I)) (hopsE a.I b.L c.I d.I e.I (bestF a.I b.L c.I d.I e.I) 0) c.I d.I := rfl
        rw [e1]
        omega
  have hemp : (wayX a.I b.L c.I d.I e.I).isEmpty = true → driveF b.L (wayX a.I b.L c.I d.I e.I) 0 (wayX a.I b.L c.I d.I e.I).length c.I d.I = (true, e.I, bestF a.I b.L c.I d.I e.I) → c.I = e.I ∧ d.I = bestF a.I b.L c.I d.I e.I := fun he hd => by
    rw [List.isEmpty_iff.1 he] at hd
    simp only [List.length_nil, driveF, Prod.mk.injEq, true_and] at hd
    exact hd
  have htk : ∀ x : List D, List.take (b.L.length + 1) (b.L ++ [x]) = b.L ++ [x] := fun x => List.take_of_length_le (by simp)
  have hle : (b.L ++ [[D.i g.I, .i h.I, .i i.I, .l j.L]]).length = b.L.length + 1 := by simp
  simp only [List.take_length]
  simp only [List.length_cons, List.length_nil, Nat.zero_add, hn, hw2, Int.toNat_zero, Nat.sub_zero, Int.toNat_natCast, rg_def, hbest, htk, hle]
  refine go_yes (by rw [hN, hO, hT]; rfl) (go_ite (fun hem => ?_) fun hem => ?_)
  · refine go_yes (by rw [hN, hO]; rfl) (go_yes (by rw [hN, hO2]; rfl) (go_false rfl (go_false rfl (go_false (by simp) (go_false (by simp) (go_yes ⟨by trivial, p1, by trivial, by trivial, by omega, by omega, by omega, by omega⟩ (go_true hlater (go_ite (fun hb => ?_) fun hb => ?_))))))))
    · have hb0 : b.L = [] := List.isEmpty_iff.1 hb
      have hmore : ∀ {x : List D}, netB a.I [x] = true → ((arrF a.I [x] c.I d.I).length : Int) = a.I ∧ allFrom (moreB (arrF a.I b.L c.I d.I) (arrF a.I [x] c.I d.I)) 0 a.I.toNat = true := fun {x} hR => by
        have := hmore (x := x) (by rw [hb0]; exact hR)
        rw [hb0] at this ⊢
        exact this
      exact go_need rfl (go_false rfl (go_need rfl (go_need rfl (go_ite (fun hR => go_need (by simp) (go_yes (by rw [hR, hO]; rfl) (go_false rfl (go_false (by simp) (go_yes ⟨by trivial, p1, by trivial, by trivial, by omega, (hmore hR).1, by omega, by omega⟩ (go_true (hmore hR).2 (go_ite (fun c8 => go_true (hcode c8).1 (go_dec hto (go_dec (by omega) (go_pos (hcode c8).2 rfl)))) (fun c8 => by
        obtain ⟨k1, k2, k3, k4⟩ := hway c8
        obtain ⟨k5, k6⟩ := hemp hem k4
        exact go_yes ⟨by trivial, by trivial⟩ (go_true (by rw [beq_iff_eq]; exact k5) (go_true (by rw [beq_iff_eq, k2]; exact k6) (go_dec hto (go_dec (by omega) (go_true (by rw [beq_iff_eq, k2]) rfl))))))))))))) (fun hR => go_ite (fun c8 => go_true (hcode c8).1 (go_dec hto (go_dec (by omega) (go_pos (hcode c8).2 rfl)))) (fun c8 => by
        obtain ⟨k1, k2, k3, k4⟩ := hway c8
        obtain ⟨k5, k6⟩ := hemp hem k4
        exact go_yes ⟨by trivial, by trivial⟩ (go_true (by rw [beq_iff_eq]; exact k5) (go_true (by rw [beq_iff_eq, k2]; exact k6) (go_dec hto (go_dec (by omega) (go_true (by rw [beq_iff_eq, k2]) rfl)))))))))))
    · exact go_dec (by rw [hby]; omega) (go_need rfl (go_false rfl (go_dec (by rw [hby]; omega) (go_dec (by omega) (go_ite (fun hR => go_need (by simp) (go_yes (by rw [hR, hO]; rfl) (go_false rfl (go_false (by simp) (go_yes ⟨by trivial, p1, by trivial, by trivial, by omega, (hmore hR).1, by omega, by omega⟩ (go_true (hmore hR).2 (go_ite (fun c8 => go_true (hcode c8).1 (go_dec hto (go_dec (by omega) (go_pos (hcode c8).2 rfl)))) (fun c8 => by
        obtain ⟨k1, k2, k3, k4⟩ := hway c8
        obtain ⟨k5, k6⟩ := hemp hem k4
        exact go_yes ⟨by trivial, by trivial⟩ (go_true (by rw [beq_iff_eq]; exact k5) (go_true (by rw [beq_iff_eq, k2]; exact k6) (go_dec hto (go_dec (by omega) (go_true (by rw [beq_iff_eq, k2]) rfl))))))))))))) (fun hR => go_ite (fun c8 => go_true (hcode c8).1 (go_dec hto (go_dec (by omega) (go_pos (hcode c8).2 rfl)))) (fun c8 => by
        obtain ⟨k1, k2, k3, k4⟩ := hway c8
        obtain ⟨k5, k6⟩ := hemp hem k4
        exact go_yes ⟨by trivial, by trivial⟩ (go_true (by rw [beq_iff_eq]; exact k5) (go_true (by rw [beq_iff_eq, k2]; exact k6) (go_dec hto (go_dec (by omega) (go_true (by rw [beq_iff_eq, k2]) rfl))))))))))))
  · refine go_yes (by rw [hN, hO]; rfl) (go_yes (by rw [hN, hO2]; rfl) (go_false rfl (go_false rfl (go_false (by simp) (go_false (by simp) (go_yes ⟨by trivial, p1, by trivial, by trivial, by omega, by omega, ⟨by omega, by omega⟩, by trivial⟩ (go_true hlater (go_ite (fun hb => ?_) fun hb => ?_))))))))
    · have hb0 : b.L = [] := List.isEmpty_iff.1 hb
      have hmore : ∀ {x : List D}, netB a.I [x] = true → ((arrF a.I [x] c.I d.I).length : Int) = a.I ∧ allFrom (moreB (arrF a.I b.L c.I d.I) (arrF a.I [x] c.I d.I)) 0 a.I.toNat = true := fun {x} hR => by
        have := hmore (x := x) (by rw [hb0]; exact hR)
        rw [hb0] at this ⊢
        exact this
      exact go_need rfl (go_false rfl (go_need rfl (go_need rfl (go_ite (fun hR => go_need (by simp) (go_yes (by rw [hR, hO]; rfl) (go_false rfl (go_false (by simp) (go_yes ⟨by trivial, p1, by trivial, by trivial, by omega, (hmore hR).1, ⟨by omega, by omega⟩, by trivial⟩ (go_true (hmore hR).2 (go_ite (fun c8 => go_true (hcode c8).1 (go_dec hto (go_dec (by omega) (go_pos (hcode c8).2 rfl)))) (fun c8 => by
        obtain ⟨k1, k2, k3, k4⟩ := hway c8
        exact go_yes ⟨by trivial, hN, by trivial, k3, by omega, by omega⟩ (go_true (by rw [k4]) (go_true (by rw [k4]; simp) (go_true (by rw [k4, k2]; simp) (go_dec hto (go_dec (by omega) (go_true (by rw [beq_iff_eq, k2]) rfl)))))))))))))) (fun hR => go_ite (fun c8 => go_true (hcode c8).1 (go_dec hto (go_dec (by omega) (go_pos (hcode c8).2 rfl)))) (fun c8 => by
        obtain ⟨k1, k2, k3, k4⟩ := hway c8
        exact go_yes ⟨by trivial, hN, by trivial, k3, by omega, by omega⟩ (go_true (by rw [k4]) (go_true (by rw [k4]; simp) (go_true (by rw [k4, k2]; simp) (go_dec hto (go_dec (by omega) (go_true (by rw [beq_iff_eq, k2]) rfl))))))))))))
    · exact go_dec (by rw [hby]; omega) (go_need rfl (go_false rfl (go_dec (by rw [hby]; omega) (go_dec (by omega) (go_ite (fun hR => go_need (by simp) (go_yes (by rw [hR, hO]; rfl) (go_false rfl (go_false (by simp) (go_yes ⟨by trivial, p1, by trivial, by trivial, by omega, (hmore hR).1, ⟨by omega, by omega⟩, by trivial⟩ (go_true (hmore hR).2 (go_ite (fun c8 => go_true (hcode c8).1 (go_dec hto (go_dec (by omega) (go_pos (hcode c8).2 rfl)))) (fun c8 => by
        obtain ⟨k1, k2, k3, k4⟩ := hway c8
        exact go_yes ⟨by trivial, hN, by trivial, k3, by omega, by omega⟩ (go_true (by rw [k4]) (go_true (by rw [k4]; simp) (go_true (by rw [k4, k2]; simp) (go_dec hto (go_dec (by omega) (go_true (by rw [beq_iff_eq, k2]) rfl)))))))))))))) (fun hR => go_ite (fun c8 => go_true (hcode c8).1 (go_dec hto (go_dec (by omega) (go_pos (hcode c8).2 rfl)))) (fun c8 => by
        obtain ⟨k1, k2, k3, k4⟩ := hway c8
        exact go_yes ⟨by trivial, hN, by trivial, k3, by omega, by omega⟩ (go_true (by rw [k4]) (go_true (by rw [k4]; simp) (go_true (by rw [k4, k2]; simp) (go_dec hto (go_dec (by omega) (go_true (by rw [beq_iff_eq, k2]) rfl)))))))))))))
theorem rescueDrives_law : rescueDrivesLaw := fun xs hx =>
  law_true_wfW hC (sp := sp5) (lp := lp5) (sw := sw5) (n := 12) ⟨ok15 11, ok19 9, ok20 11, ok23x 5, ok17x 5, ok25 11, trivial⟩ trivial (by kernel_rfl) [9, 20, 28] (by kernel_rfl) (by kernel_rfl) (fun k hk L hL => by
      simp at hk
      rcases hk with rfl | rfl | rfl <;> cases hL
      · exact ok5_9 0
      · exact ok5_20 0
      · exact ok5_28 0)
    (ts := [24, 3, 3, 3, 3, 44]) (ks := s5.args) (by kernel_rfl) (of_decide_eq_true (by kernel_rfl)) (m := 10) (by kernel_rfl) (fun ds hl _ => by
      match ds, hl with
      | [a, b, c, d, e, f, g, h, i, j], _ => exact law5 a b c d e f g h i j) 12 xs hx
theorem rescue_drives : Rows.RescueDrivesSaid := rescueDrives_over rescueDrives_law
end Go.Proofs.Ytgmefblkmidglaa
