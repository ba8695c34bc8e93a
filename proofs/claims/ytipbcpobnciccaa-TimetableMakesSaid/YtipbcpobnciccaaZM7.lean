/-
  What the claim timetable_makes rests on, part 7.
-/
import Derived.Test.YtipbcpobnciccaaZM6
namespace Go.Proofs.Ytipbcpobnciccaa
open Go.Lite
def s57 : Sig := ⟨[.agg [.k (.int .i64), .k (.int .i64), .k (.ro [.int .i64, .int .i64, .int .i64, .int .i64, .bool, .int .i64, .int .i64, .ro [.int .i64, .int .i64, .int .i64]])], .k (.ro [.int .i64]), .nils], [(.tup [.nils, .k .bool], []), (.tup [.sub 0 1, .k .bool], [.row [.int .i64]])]⟩
def l57_4 : LSig := mkLS [2, 3, 6, 7, 8, 24, 25, 26] [(86, [(2, .nils), (3, .ptr 0 3 0 0), (6, .ptr 1 1 0 0), (7, .ptr 2 1 0 0), (8, .ptr 3 2 0 0), (24, .sl 4 1), (25, .k (.int .i64)), (26, .k (.int .i64))], [.box [.k (.int .i64), .k (.int .i64), .k (.ro [.int .i64, .int .i64, .int .i64, .int .i64, .bool, .int .i64, .int .i64, .ro [.int .i64, .int .i64, .int .i64]])], .box [.nils], .box [.k .bool], .box [.k (.int .i64), .nils], .row [.alt (KA.cons 118 [.int .i64] (KA.cons 120 [.int .i64] (KA.cons 123 [.int .i64, .opt [.int .i64, .int .i64, .int .i64]] KA.nil)))]]), (86, [(2, .nils), (3, .ptr 0 3 0 0), (6, .ptr 1 1 0 0), (7, .ptr 2 1 0 0), (8, .ptr 3 2 0 0), (24, .sl 4 1), (25, .k (.int .i64)), (26, .k (.int .i64))], [.box [.k (.int .i64), .k (.int .i64), .k (.ro [.int .i64, .int .i64, .int .i64, .int .i64, .bool, .int .i64, .int .i64, .ro [.int .i64, .int .i64, .int .i64]])], .box [.nils], .box [.k .bool], .box [.k (.int .i64), .sl 5 3], .row [.alt (KA.cons 118 [.int .i64] (KA.cons 120 [.int .i64] (KA.cons 123 [.int .i64, .opt [.int .i64, .int .i64, .int .i64]] KA.nil)))], .row [.int .i64, .int .i64, .int .i64]])] [(.pan 105, [6, 7], [(86, [(6, .ptr 1 1 0 0), (7, .ptr 2 1 0 0)], [.box [.k (.int .i64), .k (.int .i64), .k (.ro [.int .i64, .int .i64, .int .i64, .int .i64, .bool, .int .i64, .int .i64, .ro [.int .i64, .int .i64, .int .i64]])], .box [.nils], .box [.k .bool]])]), (.exit 0, [2, 6, 7, 8], [(86, [(2, .nils), (6, .ptr 1 1 0 0), (7, .ptr 2 1 0 0), (8, .ptr 3 2 0 0)], [.box [.k (.int .i64), .k (.int .i64), .k (.ro [.int .i64, .int .i64, .int .i64, .int .i64, .bool, .int .i64, .int .i64, .ro [.int .i64, .int .i64, .int .i64]])], .box [.nils], .box [.k .bool], .box [.k (.int .i64), .nils]]), (86, [(2, .nils), (6, .ptr 1 1 0 0), (7, .ptr 2 1 0 0), (8, .ptr 3 2 0 0)], [.box [.k (.int .i64), .k (.int .i64), .k (.ro [.int .i64, .int .i64, .int .i64, .int .i64, .bool, .int .i64, .int .i64, .ro [.int .i64, .int .i64, .int .i64]])], .box [.nils], .box [.k .bool], .box [.k (.int .i64), .sl 4 3], .row [.int .i64, .int .i64, .int .i64]])])]
def l57_9 : LSig := mkLS [2, 6, 7, 8, 45, 46] [(86, [(2, .nils), (6, .ptr 1 1 0 0), (7, .ptr 2 1 0 0), (8, .ptr 3 2 0 0), (45, .k (.int .i64)), (46, .k (.int .i64))], [.box [.k (.int .i64), .k (.int .i64), .k (.ro [.int .i64, .int .i64, .int .i64, .int .i64, .bool, .int .i64, .int .i64, .ro [.int .i64, .int .i64, .int .i64]])], .box [.nils], .box [.k .bool], .box [.k (.int .i64), .nils]]), (86, [(2, .nils), (6, .ptr 1 1 0 0), (7, .ptr 2 1 0 0), (8, .ptr 3 2 0 0), (45, .k (.int .i64)), (46, .k (.int .i64))], [.box [.k (.int .i64), .k (.int .i64), .k (.ro [.int .i64, .int .i64, .int .i64, .int .i64, .bool, .int .i64, .int .i64, .ro [.int .i64, .int .i64, .int .i64]])], .box [.nils], .box [.k .bool], .box [.k (.int .i64), .sl 4 3], .row [.int .i64, .int .i64, .int .i64]])] [(.exit 2, [2, 6, 7, 8], [(86, [(2, .nils), (6, .ptr 1 1 0 0), (7, .ptr 2 1 0 0), (8, .ptr 3 2 0 0)], [.box [.k (.int .i64), .k (.int .i64), .k (.ro [.int .i64, .int .i64, .int .i64, .int .i64, .bool, .int .i64, .int .i64, .ro [.int .i64, .int .i64, .int .i64]])], .box [.nils], .box [.k .bool], .box [.k (.int .i64), .nils]]), (86, [(2, .nils), (6, .ptr 1 1 0 0), (7, .ptr 2 1 0 0), (8, .ptr 3 2 0 0)], [.box [.k (.int .i64), .k (.int .i64), .k (.ro [.int .i64, .int .i64, .int .i64, .int .i64, .bool, .int .i64, .int .i64, .ro [.int .i64, .int .i64, .int .i64]])], .box [.nils], .box [.k .bool], .box [.k (.int .i64), .sl 4 3], .row [.int .i64, .int .i64, .int .i64]])])]
def s58 : SigW := ⟨[.agg [.k (.int .i64), .k (.int .i64), .k (.ro [.int .i64, .int .i64, .int .i64, .int .i64, .bool, .int .i64, .int .i64, .ro [.int .i64, .int .i64, .int .i64]])], .k (.ro [.int .i64]), .sub 0 1], [.row [.int .i64]], [(.agg [.sub 0 1, .sl 1 1, .sl 2 1, .sl 3 1], [.row [.int .i64], .row [.int .i64], .row [.int .i64], .row [.int .i64]])]⟩
def l58_3 : LSig := mkLS [2, 3, 6, 7, 15, 16, 17] [(49, [(2, .sub 0 1), (3, .ptr 1 3 0 0), (6, .ptr 2 4 0 0), (7, .ptr 3 4 0 0), (15, .k (.ro [.int .i64, .int .i64, .int .i64, .int .i64, .bool, .int .i64, .int .i64, .ro [.int .i64, .int .i64, .int .i64]])), (16, .k (.int .i64)), (17, .k (.int .i64))], [.row [.int .i64], .box [.k (.int .i64), .k (.int .i64), .k (.ro [.int .i64, .int .i64, .int .i64, .int .i64, .bool, .int .i64, .int .i64, .ro [.int .i64, .int .i64, .int .i64]])], .box [.nils, .nils, .nils, .nils], .box [.sub 0 1, .nils, .nils, .sl 4 1], .row [.int .i64]]), (49, [(2, .sub 0 1), (3, .ptr 1 3 0 0), (6, .ptr 2 4 0 0), (7, .ptr 3 4 0 0), (15, .k (.ro [.int .i64, .int .i64, .int .i64, .int .i64, .bool, .int .i64, .int .i64, .ro [.int .i64, .int .i64, .int .i64]])), (16, .k (.int .i64)), (17, .k (.int .i64))], [.row [.int .i64], .box [.k (.int .i64), .k (.int .i64), .k (.ro [.int .i64, .int .i64, .int .i64, .int .i64, .bool, .int .i64, .int .i64, .ro [.int .i64, .int .i64, .int .i64]])], .box [.nils, .nils, .nils, .nils], .box [.sub 0 1, .sl 4 1, .sl 5 1, .sl 6 1], .row [.int .i64], .row [.int .i64], .row [.int .i64]])] [(.exit 0, [6, 7], [(49, [(6, .ptr 1 4 0 0), (7, .ptr 2 4 0 0)], [.row [.int .i64], .box [.nils, .nils, .nils, .nils], .box [.sub 0 1, .sl 3 1, .sl 4 1, .sl 5 1], .row [.int .i64], .row [.int .i64], .row [.int .i64]])])]
def s67 : Sig := ⟨[.k (.ro [.int .i64])], [(.sl 0 1, [.row [.int .i64]]), (.emp 1, [])]⟩
end Go.Proofs.Ytipbcpobnciccaa
namespace Go.Proofs.Ytipbcpobnciccaa
open Go.Lite
noncomputable section
def rD (l : List (List D)) (i : Nat) : List D := ((l.getD i []).getD 0 default).L.getD 0 []
def closO (c : Int) (w : List (List D)) (j : Nat) (o : List (List D)) : List (List D) :=
  if o.isEmpty then [lk3 0 ((j : Int) + 1) (ix (w.getD j []) 1)] else [lk3 0 ((j : Int) + 1) (ix (w.getD j []) 1 + ix (o.getD 0 []) 0), lk3 ((j : Int) + 1) 0 (busyF c (w.getD j []) - ix (o.getD 0 []) 1)]
def ruleL (c : Int) (w : List (List D)) (x : List D) : List (List D) := if ix x 0 = 0 then [lk3 0 1 (ix x 1)] else if ix x 0 = 1 then afterL c w (ix x 1 - 1).toNat else closO c w (ix x 1).toNat (lx x 2)
def ruleK (c : Int) (w : List (List D)) (x : List D) : Bool := decide (ix x 0 = 2 → (lx x 2).isEmpty = false → ix (w.getD (ix x 1).toNat []) 1 + busyF c (w.getD (ix x 1).toNat []) ≤ ix ((lx x 2).getD 0 []) 2)
def ruleV (w : List (List D)) (x : List D) : Prop := ix x 0 = 0 ∨ (ix x 0 = 1 ∧ 1 ≤ ix x 1 ∧ ix x 1 ≤ w.length) ∨ (ix x 0 = 2 ∧ (0 ≤ ix x 1 ∧ ix x 1 < w.length) ∧ winOk (lx x 2))
def linksU (c : Int) (w l : List (List D)) : Nat → Nat → List (List D)
  | _, 0 => []
  | i, k + 1 => ruleL c w (rD l i) ++ linksU c w l (i + 1) k
def rulesV (w l : List (List D)) : Prop := l.length ≤ 200 ∧ ∀ j, j < l.length → ruleV w (rD l j)
def rulesK (c : Int) (w l : List (List D)) (j : Nat) : Bool := ruleK c w (rD l j)
def G57_4 (ds : List D) : T (Ex × List D) := match ds with
  | [h, n, m, i, c, f, w, ok, nn, l] => .need (yes (h.I = 0 ∧ planB c.I f.I w.L = true ∧ rulesV w.L l.L ∧ n.I = l.L.length ∧ m.I = l.L.length ∧ i.I = 0 ∧ 0 < l.L.length))
      (.ite (allFrom (rulesK c.I w.L l.L) 0 l.L.length) (.leaf (.exit 0, [.i 1, .i c.I, .i f.I, .l w.L, .b ok.B, .i nn.I, .i (linksU c.I w.L l.L 0 l.L.length).length, .l (linksU c.I w.L l.L 0 l.L.length)])) (.leaf (.pan 105, [.i c.I, .i f.I, .l w.L, .b ok.B])))
  | [h, n, m, i, c, f, w, ok, nn, ll, l, k] => .need (yes (h.I = 1 ∧ planB c.I f.I w.L = true ∧ rulesV w.L l.L ∧ n.I = l.L.length ∧ m.I = l.L.length ∧ 0 ≤ i.I ∧ i.I ≤ l.L.length ∧ ll.I = k.L.length ∧ k.L.length ≤ 2 * i.I))
      (.ite (allFrom (rulesK c.I w.L l.L) i.I.toNat (l.L.length - i.I.toNat)) (.leaf (.exit 0, [.i 1, .i c.I, .i f.I, .l w.L, .b ok.B, .i nn.I, .i (k.L ++ linksU c.I w.L l.L i.I.toNat (l.L.length - i.I.toNat)).length, .l (k.L ++ linksU c.I w.L l.L i.I.toNat (l.L.length - i.I.toNat))])) (.leaf (.pan 105, [.i c.I, .i f.I, .l w.L, .b ok.B])))
  | _ => .fail
def G57_9 (ds : List D) : T (Ex × List D) := match ds with
  | [h, m, i, c, f, w, ok, nn, ll, k] => .need (yes (h.I = 1 ∧ 0 ≤ i.I ∧ i.I ≤ m.I ∧ m.I ≤ 500 ∧ ll.I = k.L.length ∧ k.L.length + (m.I - i.I) ≤ 5500))
      (.leaf (.exit 2, [.i 1, .i c.I, .i f.I, .l w.L, .b ok.B, .i nn.I, .i (k.L ++ extraF i.I.toNat (m.I - i.I).toNat).length, .l (k.L ++ extraF i.I.toNat (m.I - i.I).toNat)]))
  | _ => .fail
def G57 (ds : List D) : T (List D) := match ds with
  | [c, f, w, ch] => .need (yes (planB c.I f.I w.L = true ∧ chOK w.L ch.L))
      (.ite (duesOk c.I f.I w.L ch.L) (.leaf [.i 1, .i 1, .i (w.L.length + 1 : Nat), .b true, .l (pushP true c.I f.I w.L ch.L).1]) (.leaf [.i 0, .b false]))
  | _ => .fail
def rowF (g : Nat → Int) : Nat → Nat → List (List D)
  | _, 0 => []
  | i, k + 1 => [.i (g i)] :: rowF g (i + 1) k
def clG (w : List (List D)) (du : Nat → Int) (j : Nat) : Int := du j - ix (w.getD j []) 1
def opG (c : Int) (w : List (List D)) (du : Nat → Int) (j : Nat) : Int := du j + busyF c (w.getD j [])
def duF (du : List (List D)) (j : Nat) : Int := rg du (j + 1)
def duOK (w du : List (List D)) : Prop := du.length = w.length + 2 ∧ ∀ j, 0 ≤ rg du j ∧ rg du j ≤ 2000000000
def G58 (ds : List D) : T (List D) := match ds with
  | [c, f, w, ch, lo, n, du] => .need (yes (planB c.I f.I w.L = true ∧ ch.L.length = w.L.length ∧ lo.I = 1 ∧ n.I = w.L.length + 1 ∧ duOK w.L du.L))
      (.leaf [.i 1, .i (w.L.length + 1 : Nat), .i w.L.length, .i w.L.length, .i ch.L.length, .l du.L, .l (rowF (clG w.L (duF du.L)) 0 w.L.length), .l (rowF (opG c.I w.L (duF du.L)) 0 w.L.length), .l ch.L])
  | _ => .fail
def G58_3 (ds : List D) : T (Ex × List D) := match ds with
  | [h, lo, n, w', m, i, du, c, f, w, lo2, n2, n3, ch] => .need (yes (h.I = 0 ∧ planB c.I f.I w.L = true ∧ lo.I = 1 ∧ n.I = w.L.length + 1 ∧ w'.L = w.L ∧ m.I = w.L.length ∧ i.I = 0 ∧ duOK w.L du.L ∧ lo2.I = 1 ∧ n2.I = w.L.length + 1 ∧ n3.I = ch.L.length))
      (.leaf (.exit 0, [.l du.L, .i 1, .i (w.L.length + 1 : Nat), .i w.L.length, .i w.L.length, .i ch.L.length, .l (rowF (clG w.L (duF du.L)) 0 w.L.length), .l (rowF (opG c.I w.L (duF du.L)) 0 w.L.length), .l ch.L]))
  | [h, lo, n, w', m, i, du, c, f, w, lo2, n2, n4, n5, n3, cl, op, ch] => .need (yes (h.I = 1 ∧ planB c.I f.I w.L = true ∧ lo.I = 1 ∧ n.I = w.L.length + 1 ∧ w'.L = w.L ∧ m.I = w.L.length ∧ (0 ≤ i.I ∧ i.I ≤ w.L.length) ∧ duOK w.L du.L ∧ lo2.I = 1 ∧ n2.I = w.L.length + 1 ∧ n3.I = ch.L.length ∧
        n4.I = i.I ∧ n5.I = i.I ∧ cl.L = rowF (clG w.L (duF du.L)) 0 i.I.toNat ∧ op.L = rowF (opG c.I w.L (duF du.L)) 0 i.I.toNat))
      (.leaf (.exit 0, [.l du.L, .i 1, .i (w.L.length + 1 : Nat), .i w.L.length, .i w.L.length, .i ch.L.length, .l (rowF (clG w.L (duF du.L)) 0 w.L.length), .l (rowF (opG c.I w.L (duF du.L)) 0 w.L.length), .l ch.L]))
  | _ => .fail
end
end Go.Proofs.Ytipbcpobnciccaa
namespace Go.Proofs.Ytipbcpobnciccaa
open Go.Lite
noncomputable def sp57 : SpL := [(104, mkF s104 G104), (107, mkF s107 G107), (108, mkF s108 G108)]
noncomputable def lp57 : LpL := [(4, mkLK 3 l57_4 G57_4), (9, mkLK 3 l57_9 G57_9)]
noncomputable def sw57 : SwL := [(79, mkFW s79 G79), (68, mkFW s68 G68)]
noncomputable def tab57 : Tab := mkTab sp57 lp57 sw57
noncomputable def sp58 : SpL := [(67, mkF s67 Gcl1), (73, mkF s73 G73)]
noncomputable def lp58 : LpL := [(3, mkLK 1 l58_3 G58_3)]
noncomputable def sw58 : SwL := []
noncomputable def tab58 : Tab := mkTab sp58 lp58 sw58
noncomputable def sp67 : SpL := []
noncomputable def lp67 : LpL := []
noncomputable def sw67 : SwL := []
noncomputable def tab67 : Tab := mkTab sp67 lp67 sw67
end Go.Proofs.Ytipbcpobnciccaa
namespace Go.Proofs.Ytipbcpobnciccaa
open Go.Lite
set_option linter.unusedVariables false
set_option maxRecDepth 100000
theorem t57 (a b c d : D) : fnTD C tab57 3 57 s57 [a, b, c, d] =
  T.need (yes (planB a.I b.I c.L = true ∧ chOK c.L d.L)) (T.need (yes ((↑0 : Int) = (0 : Int) ∧ planB a.I b.I c.L = true ∧ rulesV c.L (rulesP b.I c.L d.L) ∧ (↑(Int.toNat (↑(List.length (rulesP b.I c.L d.L)) : Int)) : Int) = (↑(List.length (rulesP b.I c.L d.L)) : Int) ∧ (↑(Int.toNat (↑(List.length (rulesP b.I c.L d.L)) : Int)) : Int) = (↑(List.length (rulesP b.I c.L d.L)) : Int) ∧ (0 : Int) = (0 : Int) ∧ 0 < List.length (rulesP b.I c.L d.L))) (T.ite (allFrom (rulesK a.I c.L (rulesP b.I c.L d.L)) 0 (List.length (rulesP b.I c.L d.L))) (T.need (yes ((↑(0 + 1) : Int) = (1 : Int) ∧ (0 : Int) ≤ (0 : Int) ∧ (0 : Int) ≤ IntKind.wrap IntKind.i64 ((c.L.length : Int) + (2 : Int)) ∧ IntKind.wrap IntKind.i64 ((c.L.length : Int) + (2 : Int)) ≤ (500 : Int) ∧ (↑(Int.toNat (↑(List.length (linksU a.I c.L (rulesP b.I c.L d.L) 0 (List.length (rulesP b.I c.L d.L)))) : Int)) : Int) = (↑(List.length (linksU a.I c.L (rulesP b.I c.L d.L) 0 (List.length (rulesP b.I c.L d.L)))) : Int) ∧ (↑(List.length (linksU a.I c.L (rulesP b.I c.L d.L) 0 (List.length (rulesP b.I c.L d.L)))) : Int) + (IntKind.wrap IntKind.i64 ((c.L.length : Int) + (2 : Int)) - (0 : Int)) ≤ (5500 : Int))) (T.need (decide ((0 : Int) ≤ IntKind.wrap IntKind.i64 ((c.L.length : Int) + (2 : Int)) ∧ IntKind.wrap IntKind.i64 ((c.L.length : Int) + (2 : Int)) = IntKind.wrap IntKind.i64 ((c.L.length : Int) + (2 : Int)) ∧ IntKind.wrap IntKind.i64 ((c.L.length : Int) + (2 : Int)) ≤ (2 : Int) ^ 40 ∧ (↑Try.prog.types[3].bytes : Int) * IntKind.wrap IntKind.i64 ((c.L.length : Int) + (2 : Int)) ≤ (2 : Int) ^ 46)) (T.need (decide ((0 : Int) ≤ (1 : Int) ∧ (1 : Int) ≤ (↑(List.length (List.replicate (Int.toNat (IntKind.wrap IntKind.i64 ((c.L.length : Int) + (2 : Int)))) [D.i 0])) : Int))) (T.need (decide (Int.toNat (1 : Int) + (List.length (List.replicate (Int.toNat (IntKind.wrap IntKind.i64 ((c.L.length : Int) + (2 : Int)))) [D.i 0]) - Int.toNat (1 : Int)) ≤ List.length (List.replicate (Int.toNat (IntKind.wrap IntKind.i64 ((c.L.length : Int) + (2 : Int)))) [D.i 0]))) (T.need (decide (Int.toNat (↑(List.length (linksU a.I c.L (rulesP b.I c.L d.L) 0 (List.length (rulesP b.I c.L d.L)) ++ extraF (Int.toNat (0 : Int)) (Int.toNat (IntKind.wrap IntKind.i64 ((c.L.length : Int) + (2 : Int)) - (0 : Int))))) : Int) ≤ List.length (linksU a.I c.L (rulesP b.I c.L d.L) 0 (List.length (rulesP b.I c.L d.L)) ++ extraF (Int.toNat (0 : Int)) (Int.toNat (IntKind.wrap IntKind.i64 ((c.L.length : Int) + (2 : Int)) - (0 : Int)))))) (T.need (yes (goodL (IntKind.wrap IntKind.i64 ((c.L.length : Int) + (2 : Int))) (List.take (Int.toNat (↑(List.length (linksU a.I c.L (rulesP b.I c.L d.L) 0 (List.length (rulesP b.I c.L d.L)) ++ extraF (Int.toNat (0 : Int)) (Int.toNat (IntKind.wrap IntKind.i64 ((c.L.length : Int) + (2 : Int)) - (0 : Int))))) : Int)) (linksU a.I c.L (rulesP b.I c.L d.L) 0 (List.length (rulesP b.I c.L d.L)) ++ extraF (Int.toNat (0 : Int)) (Int.toNat (IntKind.wrap IntKind.i64 ((c.L.length : Int) + (2 : Int)) - (0 : Int))))) ∧ (↑(List.length (List.replicate (Int.toNat (IntKind.wrap IntKind.i64 ((c.L.length : Int) + (2 : Int)))) [D.i 0])) : Int) = IntKind.wrap IntKind.i64 ((c.L.length : Int) + (2 : Int)) ∧ (↑(List.length (cpy (List.replicate (Int.toNat (IntKind.wrap IntKind.i64 ((c.L.length : Int) + (2 : Int)))) [D.i 0]) [] (Int.toNat (1 : Int)) (List.length (List.replicate (Int.toNat (IntKind.wrap IntKind.i64 ((c.L.length : Int) + (2 : Int)))) [D.i 0]) - Int.toNat (1 : Int)))) : Int) = IntKind.wrap IntKind.i64 ((c.L.length : Int) + (2 : Int)) ∧ bndR (cpy (List.replicate (Int.toNat (IntKind.wrap IntKind.i64 ((c.L.length : Int) + (2 : Int)))) [D.i 0]) [] (Int.toNat (1 : Int)) (List.length (List.replicate (Int.toNat (IntKind.wrap IntKind.i64 ((c.L.length : Int) + (2 : Int)))) [D.i 0]) - Int.toNat (1 : Int))) (1099511627776 : Int))) (T.ite (decide ((pushR (IntKind.wrap IntKind.i64 ((c.L.length : Int) + (2 : Int))) (List.take (Int.toNat (↑(List.length (linksU a.I c.L (rulesP b.I c.L d.L) 0 (List.length (rulesP b.I c.L d.L)) ++ extraF (Int.toNat (0 : Int)) (Int.toNat (IntKind.wrap IntKind.i64 ((c.L.length : Int) + (2 : Int)) - (0 : Int))))) : Int)) (linksU a.I c.L (rulesP b.I c.L d.L) 0 (List.length (rulesP b.I c.L d.L)) ++ extraF (Int.toNat (0 : Int)) (Int.toNat (IntKind.wrap IntKind.i64 ((c.L.length : Int) + (2 : Int)) - (0 : Int))))) (cpy (List.replicate (Int.toNat (IntKind.wrap IntKind.i64 ((c.L.length : Int) + (2 : Int)))) [D.i 0]) [] (Int.toNat (1 : Int)) (List.length (List.replicate (Int.toNat (IntKind.wrap IntKind.i64 ((c.L.length : Int) + (2 : Int)))) [D.i 0]) - Int.toNat (1 : Int)))).snd.snd ≥ (0 : Int))) (T.leaf [D.i 0, D.b false]) (T.need (decide ((0 : Int) ≤ (0 : Int) ∧ (0 : Int) < (↑(List.length (List.replicate (Int.toNat (IntKind.wrap IntKind.i64 ((c.L.length : Int) + (2 : Int)))) [D.i 0])) : Int))) (T.need (decide (Int.toNat (0 : Int) < List.length (pushR (IntKind.wrap IntKind.i64 ((c.L.length : Int) + (2 : Int))) (List.take (Int.toNat (↑(List.length (linksU a.I c.L (rulesP b.I c.L d.L) 0 (List.length (rulesP b.I c.L d.L)) ++ extraF (Int.toNat (0 : Int)) (Int.toNat (IntKind.wrap IntKind.i64 ((c.L.length : Int) + (2 : Int)) - (0 : Int))))) : Int)) (linksU a.I c.L (rulesP b.I c.L d.L) 0 (List.length (rulesP b.I c.L d.L)) ++ extraF (Int.toNat (0 : Int)) (Int.toNat (IntKind.wrap IntKind.i64 ((c.L.length : Int) + (2 : Int)) - (0 : Int))))) (cpy (List.replicate (Int.toNat (IntKind.wrap IntKind.i64 ((c.L.length : Int) + (2 : Int)))) [D.i 0]) [] (Int.toNat (1 : Int)) (List.length (List.replicate (Int.toNat (IntKind.wrap IntKind.i64 ((c.L.length : Int) + (2 : Int)))) [D.i 0]) - Int.toNat (1 : Int)))).fst)) (T.ite (D.I (List.getD (List.getD (pushR (IntKind.wrap IntKind.i64 ((c.L.length : Int) + (2 : Int))) (List.take (Int.toNat (↑(List.length (linksU a.I c.L (rulesP b.I c.L d.L) 0 (List.length (rulesP b.I c.L d.L)) ++ extraF (Int.toNat (0 : Int)) (Int.toNat (IntKind.wrap IntKind.i64 ((c.L.length : Int) + (2 : Int)) - (0 : Int))))) : Int)) (linksU a.I c.L (rulesP b.I c.L d.L) 0 (List.length (rulesP b.I c.L d.L)) ++ extraF (Int.toNat (0 : Int)) (Int.toNat (IntKind.wrap IntKind.i64 ((c.L.length : Int) + (2 : Int)) - (0 : Int))))) (cpy (List.replicate (Int.toNat (IntKind.wrap IntKind.i64 ((c.L.length : Int) + (2 : Int)))) [D.i 0]) [] (Int.toNat (1 : Int)) (List.length (List.replicate (Int.toNat (IntKind.wrap IntKind.i64 ((c.L.length : Int) + (2 : Int)))) [D.i 0]) - Int.toNat (1 : Int)))).fst (Int.toNat (0 : Int)) []) 0 default) != (0 : Int)) (T.leaf [D.i 0, D.b false]) (T.need (decide ((0 : Int) ≤ (1 : Int) ∧ (1 : Int) ≤ (↑(List.length (List.replicate (Int.toNat (IntKind.wrap IntKind.i64 ((c.L.length : Int) + (2 : Int)))) [D.i 0])) : Int))) (T.leaf [D.i 1, D.i 1, D.i (↑(List.length (List.replicate (Int.toNat (IntKind.wrap IntKind.i64 ((c.L.length : Int) + (2 : Int)))) [D.i 0]) - Int.toNat (1 : Int)) : Int), D.b true, D.l (pushR (IntKind.wrap IntKind.i64 ((c.L.length : Int) + (2 : Int))) (List.take (Int.toNat (↑(List.length (linksU a.I c.L (rulesP b.I c.L d.L) 0 (List.length (rulesP b.I c.L d.L)) ++ extraF (Int.toNat (0 : Int)) (Int.toNat (IntKind.wrap IntKind.i64 ((c.L.length : Int) + (2 : Int)) - (0 : Int))))) : Int)) (linksU a.I c.L (rulesP b.I c.L d.L) 0 (List.length (rulesP b.I c.L d.L)) ++ extraF (Int.toNat (0 : Int)) (Int.toNat (IntKind.wrap IntKind.i64 ((c.L.length : Int) + (2 : Int)) - (0 : Int))))) (cpy (List.replicate (Int.toNat (IntKind.wrap IntKind.i64 ((c.L.length : Int) + (2 : Int)))) [D.i 0]) [] (Int.toNat (1 : Int)) (List.length (List.replicate (Int.toNat (IntKind.wrap IntKind.i64 ((c.L.length : Int) + (2 : Int)))) [D.i 0]) - Int.toNat (1 : Int)))).fst])))))))))))) (T.ite true (T.leaf [D.i 0, D.b false]) (T.leaf [D.i 0, D.b false])))) := by kernel_rfl
theorem t57_4_0 (a b c d e f g h i : D) : roundTK C tab57 57 (loopOf C.P 57 4) 3 l57_4 [.i 0, a, b, c, d, e, f, g, h, i] =
  T.ite (decide (c.I < b.I)) (T.need (decide ((0 : Int) ≤ c.I ∧ c.I < (a.I.toNat : Int))) (T.need (decide (c.I.toNat < i.L.length)) (T.ite (decide (D.I (List.getD (List.getD (D.L (List.getD (List.getD i.L c.I.toNat []) 0 default)) 0 []) 0 default) = (↑0 : Int))) (T.need true (T.ite false (T.leaf (Rd.again [D.i 0, D.i (a.I.toNat : Int), D.i b.I, D.i (IntKind.wrap IntKind.i64 (c.I + (1 : Int))), D.i d.I, D.i e.I, D.l f.L, D.b g.B, D.i h.I, D.l i.L])) (T.need true (T.leaf (Rd.again [D.i 1, D.i (a.I.toNat : Int), D.i b.I, D.i (IntKind.wrap IntKind.i64 (c.I + (1 : Int))), D.i d.I, D.i e.I, D.l f.L, D.b g.B, D.i h.I, D.i 1, D.l i.L, D.l [[D.i 0, D.i 1, D.i (D.I (List.getD (List.getD (D.L (List.getD (List.getD i.L c.I.toNat []) 0 default)) 0 []) 1 default))]]]))))) (T.ite (decide (D.I (List.getD (List.getD (D.L (List.getD (List.getD i.L c.I.toNat []) 0 default)) 0 []) 0 default) = (↑(0 + 1) : Int))) (T.need (yes (planB d.I e.I f.L = true ∧ (1 : Int) ≤ D.I (List.getD (List.getD (D.L (List.getD (List.getD i.L c.I.toNat []) 0 default)) 0 []) 1 default) ∧ D.I (List.getD (List.getD (D.L (List.getD (List.getD i.L c.I.toNat []) 0 default)) 0 []) 1 default) ≤ (f.L.length : Int))) (T.need true (T.ite false (T.leaf (Rd.again [D.i 0, D.i (a.I.toNat : Int), D.i b.I, D.i (IntKind.wrap IntKind.i64 (c.I + (1 : Int))), D.i d.I, D.i e.I, D.l f.L, D.b g.B, D.i h.I, D.l i.L])) (T.need true (T.leaf (Rd.again [D.i 1, D.i (a.I.toNat : Int), D.i b.I, D.i (IntKind.wrap IntKind.i64 (c.I + (1 : Int))), D.i d.I, D.i e.I, D.l f.L, D.b g.B, D.i h.I, D.i 2, D.l i.L, D.l [[D.i ((↑(Int.toNat (D.I (List.getD (List.getD (D.L (List.getD (List.getD i.L c.I.toNat []) 0 default)) 0 []) 1 default) - (1 : Int))) : Int) + (1 : Int)), D.i ((↑(Int.toNat (D.I (List.getD (List.getD (D.L (List.getD (List.getD i.L c.I.toNat []) 0 default)) 0 []) 1 default) - (1 : Int))) : Int) + (2 : Int)), D.i (leW d.I f.L (Int.toNat (D.I (List.getD (List.getD (D.L (List.getD (List.getD i.L c.I.toNat []) 0 default)) 0 []) 1 default) - (1 : Int))))], [D.i ((↑(Int.toNat (D.I (List.getD (List.getD (D.L (List.getD (List.getD i.L c.I.toNat []) 0 default)) 0 []) 1 default) - (1 : Int))) : Int) + (2 : Int)), D.i ((↑(Int.toNat (D.I (List.getD (List.getD (D.L (List.getD (List.getD i.L c.I.toNat []) 0 default)) 0 []) 1 default) - (1 : Int))) : Int) + (1 : Int)), D.i (-moW d.I f.L (Int.toNat (D.I (List.getD (List.getD (D.L (List.getD (List.getD i.L c.I.toNat []) 0 default)) 0 []) 1 default) - (1 : Int))))]]])))))) (T.need (decide (D.I (List.getD (List.getD (D.L (List.getD (List.getD i.L c.I.toNat []) 0 default)) 0 []) 0 default) = (↑(0 + 1 + 1) : Int))) (T.need (yes (planB d.I e.I f.L = true ∧ (0 : Int) ≤ D.I (List.getD (List.getD (D.L (List.getD (List.getD i.L c.I.toNat []) 0 default)) 0 []) 1 default) ∧ D.I (List.getD (List.getD (D.L (List.getD (List.getD i.L c.I.toNat []) 0 default)) 0 []) 1 default) < (f.L.length : Int) ∧ winOk (D.L (List.getD (List.getD (D.L (List.getD (List.getD i.L c.I.toNat []) 0 default)) 0 []) (1 + 1) default)))) (T.ite (List.isEmpty (D.L (List.getD (List.getD (D.L (List.getD (List.getD i.L c.I.toNat []) 0 default)) 0 []) (1 + 1) default))) (T.need true (T.ite false (T.leaf (Rd.again [D.i 0, D.i (a.I.toNat : Int), D.i b.I, D.i (IntKind.wrap IntKind.i64 (c.I + (1 : Int))), D.i d.I, D.i e.I, D.l f.L, D.b g.B, D.i h.I, D.l i.L])) (T.need true (T.leaf (Rd.again [D.i 1, D.i (a.I.toNat : Int), D.i b.I, D.i (IntKind.wrap IntKind.i64 (c.I + (1 : Int))), D.i d.I, D.i e.I, D.l f.L, D.b g.B, D.i h.I, D.i 1, D.l i.L, D.l [[D.i 0, D.i (D.I (List.getD (List.getD (D.L (List.getD (List.getD i.L c.I.toNat []) 0 default)) 0 []) 1 default) + (1 : Int)), D.i (ix (List.getD f.L (Int.toNat (D.I (List.getD (List.getD (D.L (List.getD (List.getD i.L c.I.toNat []) 0 default)) 0 []) 1 default))) []) 1)]]]))))) (T.ite (decide (ix (List.getD f.L (Int.toNat (D.I (List.getD (List.getD (D.L (List.getD (List.getD i.L c.I.toNat []) 0 default)) 0 []) 1 default))) []) 1 + busyF d.I (List.getD f.L (Int.toNat (D.I (List.getD (List.getD (D.L (List.getD (List.getD i.L c.I.toNat []) 0 default)) 0 []) 1 default))) []) > ix (List.getD (D.L (List.getD (List.getD (D.L (List.getD (List.getD i.L c.I.toNat []) 0 default)) 0 []) (1 + 1) default)) 0 []) 2)) (T.leaf (Rd.out (Ex.pan 105) [D.i d.I, D.i e.I, D.l f.L, D.b g.B])) (T.need true (T.ite false (T.leaf (Rd.again [D.i 0, D.i (a.I.toNat : Int), D.i b.I, D.i (IntKind.wrap IntKind.i64 (c.I + (1 : Int))), D.i d.I, D.i e.I, D.l f.L, D.b g.B, D.i h.I, D.l i.L])) (T.need true (T.leaf (Rd.again [D.i 1, D.i (a.I.toNat : Int), D.i b.I, D.i (IntKind.wrap IntKind.i64 (c.I + (1 : Int))), D.i d.I, D.i e.I, D.l f.L, D.b g.B, D.i h.I, D.i 2, D.l i.L, D.l [[D.i 0, D.i (D.I (List.getD (List.getD (D.L (List.getD (List.getD i.L c.I.toNat []) 0 default)) 0 []) 1 default) + (1 : Int)), D.i (ix (List.getD f.L (Int.toNat (D.I (List.getD (List.getD (D.L (List.getD (List.getD i.L c.I.toNat []) 0 default)) 0 []) 1 default))) []) 1 + ix (List.getD (D.L (List.getD (List.getD (D.L (List.getD (List.getD i.L c.I.toNat []) 0 default)) 0 []) (1 + 1) default)) 0 []) 0)], [D.i (D.I (List.getD (List.getD (D.L (List.getD (List.getD i.L c.I.toNat []) 0 default)) 0 []) 1 default) + (1 : Int)), D.i 0, D.i (busyF d.I (List.getD f.L (Int.toNat (D.I (List.getD (List.getD (D.L (List.getD (List.getD i.L c.I.toNat []) 0 default)) 0 []) 1 default))) []) - ix (List.getD (D.L (List.getD (List.getD (D.L (List.getD (List.getD i.L c.I.toNat []) 0 default)) 0 []) (1 + 1) default)) 0 []) 1)]]]))))))))))))) (T.leaf (Rd.out (Ex.exit 0) [D.i 0, D.i d.I, D.i e.I, D.l f.L, D.b g.B, D.i h.I])) := by kernel_rfl
theorem t57_4_1 (a b c d e f g h i j k : D) : roundTK C tab57 57 (loopOf C.P 57 4) 3 l57_4 [.i 1, a, b, c, d, e, f, g, h, i, j, k] =
  T.ite (decide (c.I < b.I)) (T.need (decide ((0 : Int) ≤ c.I ∧ c.I < (a.I.toNat : Int))) (T.need (decide (c.I.toNat < j.L.length)) (T.ite (decide (D.I (List.getD (List.getD (D.L (List.getD (List.getD j.L c.I.toNat []) 0 default)) 0 []) 0 default) = (↑0 : Int))) (T.need true (T.ite false (T.leaf (Rd.again [D.i 1, D.i (a.I.toNat : Int), D.i b.I, D.i (IntKind.wrap IntKind.i64 (c.I + (1 : Int))), D.i d.I, D.i e.I, D.l f.L, D.b g.B, D.i h.I, D.i (i.I.toNat : Int), D.l j.L, D.l k.L])) (T.need (decide (i.I.toNat ≤ k.L.length ∧ i.I.toNat + 1 ≤ 2 ^ 62 ∧ (i.I.toNat + 1) * Try.prog.types[58].bytes ≤ 2 ^ 47)) (T.leaf (Rd.again [D.i 1, D.i (a.I.toNat : Int), D.i b.I, D.i (IntKind.wrap IntKind.i64 (c.I + (1 : Int))), D.i d.I, D.i e.I, D.l f.L, D.b g.B, D.i h.I, D.i (↑(i.I.toNat + 1) : Int), D.l j.L, D.l (List.take i.I.toNat k.L ++ List.take (Int.toNat (1 : Int)) [lk3 (0 : Int) (1 : Int) (D.I (List.getD (List.getD (D.L (List.getD (List.getD j.L c.I.toNat []) 0 default)) 0 []) 1 default))])]))))) (T.ite (decide (D.I (List.getD (List.getD (D.L (List.getD (List.getD j.L c.I.toNat []) 0 default)) 0 []) 0 default) = (↑(0 + 1) : Int))) (T.need (yes (planB d.I e.I f.L = true ∧ (1 : Int) ≤ D.I (List.getD (List.getD (D.L (List.getD (List.getD j.L c.I.toNat []) 0 default)) 0 []) 1 default) ∧ D.I (List.getD (List.getD (D.L (List.getD (List.getD j.L c.I.toNat []) 0 default)) 0 []) 1 default) ≤ (f.L.length : Int))) (T.need true (T.ite false (T.leaf (Rd.again [D.i 1, D.i (a.I.toNat : Int), D.i b.I, D.i (IntKind.wrap IntKind.i64 (c.I + (1 : Int))), D.i d.I, D.i e.I, D.l f.L, D.b g.B, D.i h.I, D.i (i.I.toNat : Int), D.l j.L, D.l k.L])) (T.need (decide (i.I.toNat ≤ k.L.length ∧ i.I.toNat + 2 ≤ 2 ^ 62 ∧ (i.I.toNat + 2) * Try.prog.types[58].bytes ≤ 2 ^ 47)) (T.leaf (Rd.again [D.i 1, D.i (a.I.toNat : Int), D.i b.I, D.i (IntKind.wrap IntKind.i64 (c.I + (1 : Int))), D.i d.I, D.i e.I, D.l f.L, D.b g.B, D.i h.I, D.i (↑(i.I.toNat + 2) : Int), D.l j.L, D.l (List.take i.I.toNat k.L ++ List.take (Int.toNat (2 : Int)) (afterL d.I f.L (Int.toNat (D.I (List.getD (List.getD (D.L (List.getD (List.getD j.L c.I.toNat []) 0 default)) 0 []) 1 default) - (1 : Int)))))])))))) (T.need (decide (D.I (List.getD (List.getD (D.L (List.getD (List.getD j.L c.I.toNat []) 0 default)) 0 []) 0 default) = (↑(0 + 1 + 1) : Int))) (T.need (yes (planB d.I e.I f.L = true ∧ (0 : Int) ≤ D.I (List.getD (List.getD (D.L (List.getD (List.getD j.L c.I.toNat []) 0 default)) 0 []) 1 default) ∧ D.I (List.getD (List.getD (D.L (List.getD (List.getD j.L c.I.toNat []) 0 default)) 0 []) 1 default) < (f.L.length : Int) ∧ winOk (D.L (List.getD (List.getD (D.L (List.getD (List.getD j.L c.I.toNat []) 0 default)) 0 []) (1 + 1) default)))) (T.ite (List.isEmpty (D.L (List.getD (List.getD (D.L (List.getD (List.getD j.L c.I.toNat []) 0 default)) 0 []) (1 + 1) default))) (T.need true (T.ite false (T.leaf (Rd.again [D.i 1, D.i (a.I.toNat : Int), D.i b.I, D.i (IntKind.wrap IntKind.i64 (c.I + (1 : Int))), D.i d.I, D.i e.I, D.l f.L, D.b g.B, D.i h.I, D.i (i.I.toNat : Int), D.l j.L, D.l k.L])) (T.need (decide (i.I.toNat ≤ k.L.length ∧ i.I.toNat + 1 ≤ 2 ^ 62 ∧ (i.I.toNat + 1) * Try.prog.types[58].bytes ≤ 2 ^ 47)) (T.leaf (Rd.again [D.i 1, D.i (a.I.toNat : Int), D.i b.I, D.i (IntKind.wrap IntKind.i64 (c.I + (1 : Int))), D.i d.I, D.i e.I, D.l f.L, D.b g.B, D.i h.I, D.i (↑(i.I.toNat + 1) : Int), D.l j.L, D.l (List.take i.I.toNat k.L ++ List.take (Int.toNat (1 : Int)) [lk3 (0 : Int) (D.I (List.getD (List.getD (D.L (List.getD (List.getD j.L c.I.toNat []) 0 default)) 0 []) 1 default) + (1 : Int)) (ix (List.getD f.L (Int.toNat (D.I (List.getD (List.getD (D.L (List.getD (List.getD j.L c.I.toNat []) 0 default)) 0 []) 1 default))) []) 1)])]))))) (T.ite (decide (ix (List.getD f.L (Int.toNat (D.I (List.getD (List.getD (D.L (List.getD (List.getD j.L c.I.toNat []) 0 default)) 0 []) 1 default))) []) 1 + busyF d.I (List.getD f.L (Int.toNat (D.I (List.getD (List.getD (D.L (List.getD (List.getD j.L c.I.toNat []) 0 default)) 0 []) 1 default))) []) > ix (List.getD (D.L (List.getD (List.getD (D.L (List.getD (List.getD j.L c.I.toNat []) 0 default)) 0 []) (1 + 1) default)) 0 []) 2)) (T.leaf (Rd.out (Ex.pan 105) [D.i d.I, D.i e.I, D.l f.L, D.b g.B])) (T.need true (T.ite false (T.leaf (Rd.again [D.i 1, D.i (a.I.toNat : Int), D.i b.I, D.i (IntKind.wrap IntKind.i64 (c.I + (1 : Int))), D.i d.I, D.i e.I, D.l f.L, D.b g.B, D.i h.I, D.i (i.I.toNat : Int), D.l j.L, D.l k.L])) (T.need (decide (i.I.toNat ≤ k.L.length ∧ i.I.toNat + 2 ≤ 2 ^ 62 ∧ (i.I.toNat + 2) * Try.prog.types[58].bytes ≤ 2 ^ 47)) (T.leaf (Rd.again [D.i 1, D.i (a.I.toNat : Int), D.i b.I, D.i (IntKind.wrap IntKind.i64 (c.I + (1 : Int))), D.i d.I, D.i e.I, D.l f.L, D.b g.B, D.i h.I, D.i (↑(i.I.toNat + 2) : Int), D.l j.L, D.l (List.take i.I.toNat k.L ++ List.take (Int.toNat (2 : Int)) [lk3 (0 : Int) (D.I (List.getD (List.getD (D.L (List.getD (List.getD j.L c.I.toNat []) 0 default)) 0 []) 1 default) + (1 : Int)) (ix (List.getD f.L (Int.toNat (D.I (List.getD (List.getD (D.L (List.getD (List.getD j.L c.I.toNat []) 0 default)) 0 []) 1 default))) []) 1 + ix (List.getD (D.L (List.getD (List.getD (D.L (List.getD (List.getD j.L c.I.toNat []) 0 default)) 0 []) (1 + 1) default)) 0 []) 0), lk3 (D.I (List.getD (List.getD (D.L (List.getD (List.getD j.L c.I.toNat []) 0 default)) 0 []) 1 default) + (1 : Int)) (0 : Int) (busyF d.I (List.getD f.L (Int.toNat (D.I (List.getD (List.getD (D.L (List.getD (List.getD j.L c.I.toNat []) 0 default)) 0 []) 1 default))) []) - ix (List.getD (D.L (List.getD (List.getD (D.L (List.getD (List.getD j.L c.I.toNat []) 0 default)) 0 []) (1 + 1) default)) 0 []) 1)])]))))))))))))) (T.leaf (Rd.out (Ex.exit 0) [D.i 1, D.i d.I, D.i e.I, D.l f.L, D.b g.B, D.i h.I, D.i (i.I.toNat : Int), D.l k.L])) := by kernel_rfl
theorem t57_9_1 (a b c d e f g h i : D) : roundTK C tab57 57 (loopOf C.P 57 9) 3 l57_9 [.i 1, a, b, c, d, e, f, g, h, i] =
  T.ite (decide (b.I < a.I)) (T.need true (T.ite false (T.leaf (Rd.again [D.i 1, D.i a.I, D.i (IntKind.wrap IntKind.i64 (b.I + (1 : Int))), D.i c.I, D.i d.I, D.l e.L, D.b f.B, D.i g.I, D.i (h.I.toNat : Int), D.l i.L])) (T.need (decide (h.I.toNat ≤ i.L.length ∧ h.I.toNat + 1 ≤ 2 ^ 62 ∧ (h.I.toNat + 1) * Try.prog.types[58].bytes ≤ 2 ^ 47)) (T.leaf (Rd.again [D.i 1, D.i a.I, D.i (IntKind.wrap IntKind.i64 (b.I + (1 : Int))), D.i c.I, D.i d.I, D.l e.L, D.b f.B, D.i g.I, D.i (↑(h.I.toNat + 1) : Int), D.l (List.take h.I.toNat i.L ++ List.take (List.length [[D.i 0, D.i b.I, D.i 0]]) [[D.i 0, D.i b.I, D.i 0]])]))))) (T.leaf (Rd.out (Ex.exit 2) [D.i 1, D.i c.I, D.i d.I, D.l e.L, D.b f.B, D.i g.I, D.i (h.I.toNat : Int), D.l i.L])) := by kernel_rfl
theorem t58 (a b c d e f g : D) : fnTW C tab58 58 s58 [a, b, c, d, e, f, g] =
  T.need (yes (d.L ≠ [] ∧ d.L.length ≤ 1073741824)) (T.need (yes ((↑0 : Int) = (0 : Int) ∧ planB a.I b.I c.L = true ∧ (e.I.toNat : Int) = (1 : Int) ∧ (f.I.toNat : Int) = (c.L.length : Int) + (1 : Int) ∧ c.L = c.L ∧ (c.L.length : Int) = (c.L.length : Int) ∧ (0 : Int) = (0 : Int) ∧ duOK c.L g.L ∧ (e.I.toNat : Int) = (1 : Int) ∧ (f.I.toNat : Int) = (c.L.length : Int) + (1 : Int) ∧ (↑(Int.toNat (d.L.length : Int)) : Int) = (d.L.length : Int))) (T.leaf [D.i 1, D.i (↑(Int.toNat (↑(c.L.length + 1) : Int)) : Int), D.i (↑(Int.toNat (c.L.length : Int)) : Int), D.i (↑(Int.toNat (c.L.length : Int)) : Int), D.i (↑(Int.toNat (d.L.length : Int)) : Int), D.l g.L, D.l (rowF (clG c.L (duF g.L)) 0 c.L.length), D.l (rowF (opG a.I c.L (duF g.L)) 0 c.L.length), D.l d.L])) := by kernel_rfl
theorem t58_3_0 (a b c d e f g h i j k l m : D) : roundTK C tab58 58 (loopOf C.P 58 3) 1 l58_3 [.i 0, a, b, c, d, e, f, g, h, i, j, k, l, m] =
  T.ite (decide (e.I < d.I)) (T.need (decide ((0 : Int) ≤ e.I ∧ e.I < (c.L.length : Int))) (T.need (decide ((0 : Int) ≤ e.I ∧ e.I < (b.I.toNat : Int))) (T.need (decide (a.I.toNat + e.I.toNat < f.L.length)) (T.need true (T.ite false (T.need (decide ((0 : Int) ≤ e.I ∧ e.I < (b.I.toNat : Int))) (T.need (decide (a.I.toNat + e.I.toNat < f.L.length)) (T.need (yes (planB g.I h.I i.L = true ∧ (0 : Int) ≤ e.I ∧ e.I < (i.L.length : Int))) (T.need true (T.ite false (T.leaf (Rd.again [D.i 0, D.i (a.I.toNat : Int), D.i (b.I.toNat : Int), D.l c.L, D.i d.I, D.i (IntKind.wrap IntKind.i64 (e.I + (1 : Int))), D.l f.L, D.i g.I, D.i h.I, D.l i.L, D.i (j.I.toNat : Int), D.i (k.I.toNat : Int), D.i (l.I.toNat : Int), D.l m.L])) (T.need true T.fail)))))) (T.need true (T.need (decide ((0 : Int) ≤ e.I ∧ e.I < (b.I.toNat : Int))) (T.need (decide (a.I.toNat + e.I.toNat < f.L.length)) (T.need (yes (planB g.I h.I i.L = true ∧ (0 : Int) ≤ e.I ∧ e.I < (i.L.length : Int))) (T.need true (T.ite false T.fail (T.need true (T.leaf (Rd.again [D.i 1, D.i (a.I.toNat : Int), D.i (b.I.toNat : Int), D.l c.L, D.i d.I, D.i (IntKind.wrap IntKind.i64 (e.I + (1 : Int))), D.l f.L, D.i g.I, D.i h.I, D.l i.L, D.i (j.I.toNat : Int), D.i (k.I.toNat : Int), D.i 1, D.i 1, D.i (l.I.toNat : Int), D.l [[D.i (IntKind.wrap IntKind.i64 (D.I (List.getD (List.getD f.L (a.I.toNat + e.I.toNat) []) 0 default) - D.I (List.getD (List.getD c.L e.I.toNat []) (0 + 1) default)))]], D.l [[D.i (IntKind.wrap IntKind.i64 (D.I (List.getD (List.getD f.L (a.I.toNat + e.I.toNat) []) 0 default) + busyF g.I (List.getD i.L e.I.toNat [])))]], D.l m.L])))))))))))))) T.fail := by kernel_rfl
theorem t58_3_1 (a b c d e f g h i j k l m n o p q : D) : roundTK C tab58 58 (loopOf C.P 58 3) 1 l58_3 [.i 1, a, b, c, d, e, f, g, h, i, j, k, l, m, n, o, p, q] =
  T.ite (decide (e.I < d.I)) (T.need (decide ((0 : Int) ≤ e.I ∧ e.I < (c.L.length : Int))) (T.need (decide ((0 : Int) ≤ e.I ∧ e.I < (b.I.toNat : Int))) (T.need (decide (a.I.toNat + e.I.toNat < f.L.length)) (T.need true (T.ite false (T.need (decide ((0 : Int) ≤ e.I ∧ e.I < (b.I.toNat : Int))) (T.need (decide (a.I.toNat + e.I.toNat < f.L.length)) (T.need (yes (planB g.I h.I i.L = true ∧ (0 : Int) ≤ e.I ∧ e.I < (i.L.length : Int))) (T.need true (T.ite false (T.leaf (Rd.again [D.i 1, D.i (a.I.toNat : Int), D.i (b.I.toNat : Int), D.l c.L, D.i d.I, D.i (IntKind.wrap IntKind.i64 (e.I + (1 : Int))), D.l f.L, D.i g.I, D.i h.I, D.l i.L, D.i (j.I.toNat : Int), D.i (k.I.toNat : Int), D.i (l.I.toNat : Int), D.i (m.I.toNat : Int), D.i (n.I.toNat : Int), D.l o.L, D.l p.L, D.l q.L])) (T.need (decide (m.I.toNat ≤ p.L.length ∧ m.I.toNat + 1 ≤ 2 ^ 62 ∧ (m.I.toNat + 1) * Try.prog.types[3].bytes ≤ 2 ^ 47)) (T.leaf (Rd.again [D.i 1, D.i (a.I.toNat : Int), D.i (b.I.toNat : Int), D.l c.L, D.i d.I, D.i (IntKind.wrap IntKind.i64 (e.I + (1 : Int))), D.l f.L, D.i g.I, D.i h.I, D.l i.L, D.i (j.I.toNat : Int), D.i (k.I.toNat : Int), D.i (l.I.toNat : Int), D.i (↑(m.I.toNat + 1) : Int), D.i (n.I.toNat : Int), D.l o.L, D.l (List.take m.I.toNat p.L ++ List.take (List.length [[D.i (IntKind.wrap IntKind.i64 (D.I (List.getD (List.getD f.L (a.I.toNat + e.I.toNat) []) 0 default) + busyF g.I (List.getD i.L e.I.toNat [])))]]) [[D.i (IntKind.wrap IntKind.i64 (D.I (List.getD (List.getD f.L (a.I.toNat + e.I.toNat) []) 0 default) + busyF g.I (List.getD i.L e.I.toNat [])))]]), D.l q.L])))))))) (T.need (decide (l.I.toNat ≤ o.L.length ∧ l.I.toNat + 1 ≤ 2 ^ 62 ∧ (l.I.toNat + 1) * Try.prog.types[3].bytes ≤ 2 ^ 47)) (T.need (decide ((0 : Int) ≤ e.I ∧ e.I < (b.I.toNat : Int))) (T.need (decide (a.I.toNat + e.I.toNat < f.L.length)) (T.need (yes (planB g.I h.I i.L = true ∧ (0 : Int) ≤ e.I ∧ e.I < (i.L.length : Int))) (T.need true (T.ite false (T.leaf (Rd.again [D.i 1, D.i (a.I.toNat : Int), D.i (b.I.toNat : Int), D.l c.L, D.i d.I, D.i (IntKind.wrap IntKind.i64 (e.I + (1 : Int))), D.l f.L, D.i g.I, D.i h.I, D.l i.L, D.i (j.I.toNat : Int), D.i (k.I.toNat : Int), D.i (↑(l.I.toNat + 1) : Int), D.i (m.I.toNat : Int), D.i (n.I.toNat : Int), D.l (List.take l.I.toNat o.L ++ List.take (List.length [[D.i (IntKind.wrap IntKind.i64 (D.I (List.getD (List.getD f.L (a.I.toNat + e.I.toNat) []) 0 default) - D.I (List.getD (List.getD c.L e.I.toNat []) (0 + 1) default)))]]) [[D.i (IntKind.wrap IntKind.i64 (D.I (List.getD (List.getD f.L (a.I.toNat + e.I.toNat) []) 0 default) - D.I (List.getD (List.getD c.L e.I.toNat []) (0 + 1) default)))]]), D.l p.L, D.l q.L])) (T.need (decide (m.I.toNat ≤ p.L.length ∧ m.I.toNat + 1 ≤ 2 ^ 62 ∧ (m.I.toNat + 1) * Try.prog.types[3].bytes ≤ 2 ^ 47)) (T.leaf (Rd.again [D.i 1, D.i (a.I.toNat : Int), D.i (b.I.toNat : Int), D.l c.L, D.i d.I, D.i (IntKind.wrap IntKind.i64 (e.I + (1 : Int))), D.l f.L, D.i g.I, D.i h.I, D.l i.L, D.i (j.I.toNat : Int), D.i (k.I.toNat : Int), D.i (↑(l.I.toNat + 1) : Int), D.i (↑(m.I.toNat + 1) : Int), D.i (n.I.toNat : Int), D.l (List.take l.I.toNat o.L ++ List.take (List.length [[D.i (IntKind.wrap IntKind.i64 (D.I (List.getD (List.getD f.L (a.I.toNat + e.I.toNat) []) 0 default) - D.I (List.getD (List.getD c.L e.I.toNat []) (0 + 1) default)))]]) [[D.i (IntKind.wrap IntKind.i64 (D.I (List.getD (List.getD f.L (a.I.toNat + e.I.toNat) []) 0 default) - D.I (List.getD (List.getD c.L e.I.toNat []) (0 + 1) default)))]]), D.l (List.take m.I.toNat p.L ++ List.take (List.length [[D.i (IntKind.wrap IntKind.i64 (D.I (List.getD (List.getD f.L (a.I.toNat + e.I.toNat) []) 0 default) + busyF g.I (List.getD i.L e.I.toNat [])))]]) [[D.i (IntKind.wrap IntKind.i64 (D.I (List.getD (List.getD f.L (a.I.toNat + e.I.toNat) []) 0 default) + busyF g.I (List.getD i.L e.I.toNat [])))]]), D.l q.L])))))))))))))) (T.leaf (Rd.out (Ex.exit 0) [D.l f.L, D.i (j.I.toNat : Int), D.i (k.I.toNat : Int), D.i (l.I.toNat : Int), D.i (m.I.toNat : Int), D.i (n.I.toNat : Int), D.l o.L, D.l p.L, D.l q.L])) := by kernel_rfl
theorem t67 (a : D) : fnT C tab67 67 s67 [a] =
  T.need (!List.isEmpty a.L) (T.ite (List.isEmpty a.L) (T.leaf [D.i 1]) (T.need (decide (a.L.length ≤ 2 ^ 62 ∧ a.L.length * Try.prog.types[3].bytes ≤ 2 ^ 47)) (T.leaf [D.i 0, D.i (a.L.length : Int), D.l a.L]))) := by kernel_rfl
end Go.Proofs.Ytipbcpobnciccaa
namespace Go.Proofs.Ytipbcpobnciccaa
open Go.Lite
set_option maxRecDepth 100000
def solD (c f : Int) (w ch : List (List D)) (d : Nat → Int) : Prop :=
  f ≤ d 0 ∧ (∀ j, 0 ≤ d j) ∧ ∀ j, j < w.length → d j + leW c w j ≤ d (j + 1) ∧ d (j + 1) - moW c w j ≤ d j ∧ ix (w.getD j []) 1 + fromF w ch j ≤ d j
def shiftD (d : Nat → Int) : Nat → Int
  | 0 => 0
  | j + 1 => d j
def endsD (c : Int) (w ch : List (List D)) (d : Nat → Int) : Prop := ∀ j, j < w.length → 0 ≤ rg ch j → d j + busyF c (w.getD j []) ≤ ix (winF w ch j) 1
theorem kept_sol {u : Bool} {c f : Int} {w ch : List (List D)} {d : Nat → Int} (h0 : ∀ j, 0 ≤ d j) : (netN (nP w) (allL (nP w) (linksP u c f w ch))).kept (shiftD d) ↔ solD c f w ch d ∧ (u = true → endsD c w ch d) := by
  rw [kept_plan]
  unfold keptJ solD endsD
  simp only [shiftD, Int.zero_add]
  constructor
  · rintro ⟨h1, h2, -⟩
    refine ⟨⟨h1, h0, fun j hj => ?_⟩, fun hu j hj hc => ?_⟩
    · obtain ⟨a, b, c, -⟩ := h2 j hj
      exact ⟨a, b, c⟩
    · obtain ⟨-, -, -, e⟩ := h2 j hj
      have := e hu hc
      omega
  · rintro ⟨⟨h1, -, h2⟩, h3⟩
    refine ⟨h1, fun j hj => ?_, fun j _ => ?_⟩
    · obtain ⟨a, b, c⟩ := h2 j hj
      exact ⟨a, b, c, fun hu hc => by have := h3 hu j hj hc; omega⟩
    · cases j with
      | zero => exact Int.le_refl _
      | succ j => exact h0 j
theorem kept_shift {u : Bool} {c f : Int} {w ch : List (List D)} {p : Nat → Int} (h0 : p 0 = 0) (h : (netN (nP w) (allL (nP w) (linksP u c f w ch))).kept p) (hn : ∀ j, 0 ≤ p j) : solD c f w ch (fun j => p (j + 1)) ∧ (u = true → endsD c w ch fun j => p (j + 1)) := by
  rw [← kept_sol (fun j => hn _)]
  rw [kept_plan] at h ⊢
  have e : ∀ j, shiftD (fun j => p (j + 1)) j = p j := fun j => by cases j with
    | zero => exact h0.symm
    | succ j => rfl
  unfold keptJ at h ⊢
  simp only [e]
  exact h
section
variable {c f : Int} {w ch : List (List D)}
theorem hours_of {l : List (List D)} (h : hours l = true) {k : Nat} (hk : k < l.length) : (0 ≤ ix (l.getD k []) 0 ∧ ix (l.getD k []) 0 ≤ ix (l.getD k []) 1) ∧ ix (l.getD k []) 1 ≤ 200000 ∧ 0 ≤ ix (l.getD k []) 2 ∧ ix (l.getD k []) 2 ≤ 200000 := by
  unfold hours at h
  exact of_decide_eq_true (allFrom_iff.1 h k (Nat.zero_le _) (by omega))
theorem win_of (hp : planB c f w = true) (hc : chOK w ch) {j : Nat} (hj : j < w.length) (h0 : 0 ≤ rg ch j) : (0 ≤ ix (winF w ch j) 0 ∧ ix (winF w ch j) 0 ≤ ix (winF w ch j) 1) ∧ ix (winF w ch j) 1 ≤ 200000 ∧ 0 ≤ ix (winF w ch j) 2 ∧ ix (winF w ch j) 2 ≤ 200000 := by
  have h1 := hc.2 j hj
  split at h1
  · omega
  · exact hours_of (way_of hp hj).2 (by omega)
theorem from_of (hp : planB c f w = true) (hc : chOK w ch) {j : Nat} (hj : j < w.length) : 0 ≤ fromF w ch j ∧ fromF w ch j ≤ 200000 := by
  unfold fromF
  split
  · have := win_of hp hc hj (by assumption)
    omega
  · omega
theorem lemo_of (hp : planB c f w = true) {j : Nat} (hj : j < w.length) : 0 ≤ leW c w j ∧ leW c w j ≤ moW c w j ∧ moW c w j ≤ 14000 := by
  have h1 := wayC_of (way_of hp hj).1
  have h2 := span_of hp hj
  unfold leW moW
  by_cases hg : j + 1 < w.length ∧ bx (w.getD (j + 1) []) 4 = true
  · have h3 := wayC_of (way_of hp hg.1).1
    rw [if_pos hg, if_pos hg]
    omega
  · rw [if_neg hg, if_neg hg]
    omega
theorem busy_of (hp : planB c f w = true) {j : Nat} (hj : j < w.length) : 0 ≤ busyF c (w.getD j []) ∧ busyF c (w.getD j []) ≤ 14000 := by
  have h1 := wayC_of (way_of hp hj).1
  have h2 := span_of hp hj
  unfold busyF
  omega
def qD (c : Int) (w : List (List D)) : Nat → Int
  | 0 => 300000
  | j + 1 => if j < w.length then qD c w j + leW c w j else 300000
theorem qD_rng (hp : planB c f w = true) : ∀ j, 300000 ≤ qD c w j ∧ qD c w j ≤ 300000 + 14000 * j
  | 0 => by simp [qD]
  | j + 1 => by
    have := qD_rng hp j
    simp only [qD]
    split
    · have := lemo_of hp (j := j) (by assumption)
      omega
    · omega
theorem qD_sol (hp : planB c f w = true) (hc : chOK w ch) : solD c f w ch (qD c w) := by
  obtain ⟨-, -, p1, p2⟩ := plan_of hp
  refine ⟨by simp only [qD]; omega, fun j => by have := qD_rng hp j; omega, fun j hj => ?_⟩
  have h1 := lemo_of hp hj
  have h2 := qD_rng hp j
  have h3 := from_of hp hc hj
  have h4 := wayC_of (way_of hp hj).1
  simp only [qD]
  rw [if_pos hj]
  omega
theorem len_linksF (u : Bool) : ∀ (k i : Nat), (linksF u c w ch i k).length ≤ 4 * k
  | 0, _ => by simp [linksF]
  | k + 1, i => by
    have h1 := len_linksF u k (i + 1)
    have h2 : (linkJ u c w ch i).length ≤ 4 := by
      unfold linkJ afterL closL
      split
      · cases u <;> simp
      · simp
    simp only [linksF, List.length_append]
    omega
theorem net_plan (u : Bool) (hp : planB c f w = true) (hc : chOK w ch) : netP (nP w) (linksP u c f w ch) := by
  obtain ⟨p0, p1, p2, p3⟩ := plan_of hp
  have hl := len_linksF (c := c) (w := w) (ch := ch) u w.length 0
  unfold netP netOk
  simp only [Bool.and_eq_true, Lite.within_iff, decide_eq_true_eq, allFrom_iff]
  refine ⟨⟨by unfold nP; omega, by unfold linksP; simp only [List.length_cons]; omega⟩, fun i _ hi => ?_⟩
  have key : ∀ x ∈ linksP u c f w ch, linkP (nP w) (ix x 0) (ix x 1) (ix x 2) = true := by
    have g : ∀ a b y : Int, linkP (nP w) (ix (lk3 a b y) 0) (ix (lk3 a b y) 1) (ix (lk3 a b y) 2) = linkP (nP w) a b y := fun _ _ _ => rfl
    have g2 : ∀ a b y : Int, (0 ≤ a ∧ a ≤ w.length + 1) → (0 ≤ b ∧ b ≤ w.length + 1) → (-1000000 ≤ y ∧ y ≤ 1000000) → linkP (nP w) a b y = true := fun a b y h1 h2 h3 => by
      unfold linkP nP
      simp only [Bool.and_eq_true, Lite.within_iff]
      omega
    intro x hx
    unfold linksP at hx
    rw [List.mem_cons, mem_linksF] at hx
    rcases hx with rfl | ⟨j, -, hj, hx⟩
    · rw [g]
      exact g2 _ _ _ (by omega) (by omega) (by omega)
    · have hjl : j < w.length := by omega
      have h1 := lemo_of hp hjl
      have h2 := busy_of hp hjl
      have h3 := wayC_of (way_of hp hjl).1
      unfold linkJ afterL closL at hx
      rw [List.mem_append, List.mem_cons, List.mem_cons] at hx
      rcases hx with (rfl | rfl | hx) | hx
      · rw [g]; exact g2 _ _ _ (by omega) (by omega) (by omega)
      · rw [g]; exact g2 _ _ _ (by omega) (by omega) (by omega)
      · cases hx
      · by_cases h0 : 0 ≤ rg ch j
        · have h4 := win_of hp hc hjl h0
          rw [if_pos h0, List.mem_cons] at hx
          rcases hx with rfl | hx
          · rw [g]; exact g2 _ _ _ (by omega) (by omega) (by omega)
          · cases u with
            | false => cases hx
            | true =>
              simp only [if_true, List.mem_cons, List.not_mem_nil, or_false] at hx
              subst hx
              rw [g]; exact g2 _ _ _ (by omega) (by omega) (by omega)
        · rw [if_neg h0, List.mem_cons] at hx
          rcases hx with rfl | hx
          · rw [g]; exact g2 _ _ _ (by omega) (by omega) (by omega)
          · cases hx
  have := key ((linksP u c f w ch).getD i []) (by
    have hi' : i < (linksP u c f w ch).length := by omega
    rw [List.getD_eq_getElem?_getD, List.getElem?_eq_getElem hi']
    exact List.getElem_mem hi')
  exact this
theorem shift_nn {d : Nat → Int} (h : ∀ j, 0 ≤ d j) (j : Nat) : 0 ≤ shiftD d j := by
  cases j with
  | zero => exact Int.le_refl _
  | succ j => exact h j
theorem push_plan (u : Bool) (hp : planB c f w = true) (hc : chOK w ch) (hr : (pushP u c f w ch).2.2 < 0) :
    rg (pushP u c f w ch).1 0 = 0 ∧ (∀ j, 0 ≤ rg (pushP u c f w ch).1 j) ∧ (pushP u c f w ch).1.length = w.length + 2 ∧ solD c f w ch (fun j => rg (pushP u c f w ch).1 (j + 1)) ∧ (u = true → endsD c w ch fun j => rg (pushP u c f w ch).1 (j + 1)) := by
  have hn := net_plan u hp hc
  have h0 : rg (pushP u c f w ch).1 0 = 0 := push_zero hn hr
  have h1 : (∀ j, 0 ≤ rg (pushP u c f w ch).1 j) ∧ (pushP u c f w ch).1.length = (nP w).toNat := ⟨fun j => by have := push_le (good_all hn) (len_zeros _) j; rw [rg_zeros] at this; exact this, (sim_push (good_all hn) (len_zeros _)).l1⟩
  have hk := kept_push (good_all hn) (len_zeros _) hr
  have h2 := kept_shift h0 hk h1.1
  have h3 : (pushP u c f w ch).1.length = (nP w).toNat := h1.2
  exact ⟨h0, h1.1, by rw [h3]; unfold nP; omega, h2.1, h2.2⟩
theorem push_le_plan (u : Bool) (hp : planB c f w = true) (hc : chOK w ch) {d : Nat → Int} (hd : solD c f w ch d) (he : u = true → endsD c w ch d) :
    (pushP u c f w ch).2.2 < 0 ∧ ∀ j, rg (pushP u c f w ch).1 (j + 1) ≤ d j := by
  have h := push_least (net_plan u hp hc) ((kept_sol hd.2.1).2 ⟨hd, he⟩) (shift_nn hd.2.1)
  exact ⟨h.1, fun j => h.2 (j + 1)⟩
theorem rg_dueL (c f : Int) (w ch : List (List D)) (j : Nat) : rg (dueL c f w ch) j = rg (pushP false c f w ch).1 (j + 1) := by
  unfold dueL
  rw [rg_drop, Nat.add_comm]
theorem due_least (hp : planB c f w = true) (hc : chOK w ch) : (dueL c f w ch).length = w.length + 1 ∧ canon (dueL c f w ch) ∧ solD c f w ch (rg (dueL c f w ch)) ∧ (∀ j, rg (dueL c f w ch) j ≤ 2000000) ∧ ∀ d, solD c f w ch d → ∀ j, rg (dueL c f w ch) j ≤ d j := by
  have h1 := push_le_plan false hp hc (qD_sol hp hc) (fun h => by cases h)
  have h2 := push_plan false hp hc h1.1
  have hl : (dueL c f w ch).length = w.length + 1 := by unfold dueL; rw [List.length_drop, h2.2.2.1]; rfl
  have hle : ∀ d, solD c f w ch d → ∀ j, rg (dueL c f w ch) j ≤ d j := fun d hd j => by
    rw [rg_dueL]
    exact (push_le_plan false hp hc hd (fun h => by cases h)).2 j
  refine ⟨hl, canon_drop (canon_push _ _) 1, ?_, fun j => ?_, hle⟩
  · have h3 := h2.2.2.2.1
    have e : rg (dueL c f w ch) = fun j => rg (pushP false c f w ch).1 (j + 1) := funext fun j => rg_dueL c f w ch j
    rw [e]
    exact h3
  · by_cases hj : j < w.length + 1
    · have h4 := hle _ (qD_sol hp hc) j
      have h5 := qD_rng hp j
      have h6 := (plan_of hp).2.1
      omega
    · rw [rg_ge (by omega)]
      omega
theorem push_ends (hp : planB c f w = true) (hc : chOK w ch) : ((pushP true c f w ch).2.2 < 0 ↔ endsD c w ch (rg (dueL c f w ch))) ∧ ((pushP true c f w ch).2.2 < 0 → (pushP true c f w ch).1.drop 1 = dueL c f w ch) := by
  obtain ⟨d1, d2, d3, d4, d5⟩ := due_least (f := f) hp hc
  have key : (pushP true c f w ch).2.2 < 0 → endsD c w ch (rg (dueL c f w ch)) := fun hr => by
    obtain ⟨e1, e2, e3, e4, e5⟩ := push_plan true hp hc hr
    intro j hj h0
    have h1 := e5 rfl j hj h0
    have h2 := d5 _ e4 j
    simp only at h1 h2
    omega
  refine ⟨⟨key, fun he => (push_le_plan true hp hc d3 (fun _ => he)).1⟩, fun hr => ?_⟩
  obtain ⟨e1, e2, e3, e4, e5⟩ := push_plan true hp hc hr
  refine canon_ext (canon_drop (canon_push _ _) 1) d2 (by rw [List.length_drop, e3, d1]; rfl) fun j _ => ?_
  rw [rg_drop, Nat.add_comm]
  have h1 := (push_le_plan true hp hc d3 (fun _ => key hr)).2 j
  have h2 := d5 _ e4 j
  omega
end
end Go.Proofs.Ytipbcpobnciccaa
namespace Go.Proofs.Ytipbcpobnciccaa
open Go.Lite
set_option maxRecDepth 100000
theorem rD_def (l : List (List D)) (k : Nat) : (lx (l.getD k []) 0).getD 0 [] = rD l k := rfl
theorem all_cons {p : Nat → Bool} {k n : Nat} (h : k < n) : allFrom p k (n - k) = (p k && allFrom p (k + 1) (n - (k + 1))) := by
  rw [show n - k = (n - (k + 1)) + 1 by omega]
  rfl
theorem ok57_4 (n : Nat) : LoopSimK C (n + 2) 3 57 (loopOf C.P 57 4) (mkLK 3 l57_4 G57_4) := by
  refine loop_ofK hC (sp := sp57) (lp := lp57) (sw := sw57) ⟨ok104 n, ok107 n, ok108 n, trivial⟩ ⟨ok79 (n + 1), ok68 (n + 1), trivial⟩ 3 [] (by kernel_rfl) rfl (fun k hk => by cases hk) (by kernel_rfl) (fun ds => ((ds.getD 2 default).I - (ds.getD 3 default).I).toNat) fun ds rr h => ?_
  unfold G57_4 at h
  split at h
  · rename_i hd nn m i c f w ok z l
    obtain ⟨hp, h⟩ := need_some h
    rw [yes_iff] at hp
    obtain ⟨e0, hp, hv, hn, hm, hi, hl0⟩ := hp
    have hb := big_eq
    have hl := hv.1
    refine ⟨by rw [fuelC]; simp; omega, ?_⟩
    rw [roundTK_head (j := hd) (n := 0) e0 (by decide), show roundTK C (mkTab sp57 lp57 sw57) 57 (loopOf C.P 57 4) 3 l57_4 [.i 0, nn, m, i, c, f, w, ok, z, l] = _ from t57_4_0 nn m i c f w ok z l]
    have hx := hv.2 0 hl0
    have e1 : allFrom (rulesK c.I w.L l.L) 0 l.L.length = (ruleK c.I w.L (rD l.L 0) && allFrom (rulesK c.I w.L l.L) 1 (l.L.length - 1)) := all_cons (p := rulesK c.I w.L l.L) (k := 0) hl0
    have e2 : linksU c.I w.L l.L 0 l.L.length = ruleL c.I w.L (rD l.L 0) ++ linksU c.I w.L l.L 1 (l.L.length - 1) := by
      obtain ⟨q, hq⟩ : ∃ q, l.L.length = q + 1 := ⟨l.L.length - 1, by omega⟩
      rw [hq]
      rfl
    have w1 : IntKind.i64.wrap ((0 : Int) + 1) = 1 := by decide
    simp only [hi, hm, hn, Int.toNat_natCast, Int.toNat_zero, rD_def, ix_def, lx_def, Nat.reduceAdd, w1, e1, e2] at h hx ⊢
    generalize rD l.L 0 = x at h hx ⊢
    have hmu : (((l.L.length : Nat) : Int) - 1).toNat < (m.I - i.I).toNat := by omega
    have go : ruleK c.I w.L x = true → ∀ (y : List (List D)) (q : Int), q = y.length → ruleL c.I w.L x = y → y.length ≤ 2 → (G57_4 [.i 1, .i (l.L.length : Int), .i (l.L.length : Int), .i 1, .i c.I, .i f.I, .l w.L, .b ok.B, .i z.I, .i q, .l l.L, .l y]).run = some rr := fun hk y q hq hy hy2 => by
      subst hq
      rw [hk, Bool.true_and, hy] at h
      refine (need_yes ⟨rfl, hp, hv, rfl, rfl, by simp only [I_i]; omega, by simp only [I_i, L_l]; omega, rfl, by simp only [I_i, L_l]; omega⟩).trans ?_
      exact h
    refine rd_pos (by omega) (rd_dec (by omega) (rd_dec (by omega) ?_))
    rcases hx with hx | ⟨hx, h1, h2⟩ | ⟨hx, h1, h2⟩
    · refine rd_pos hx (rd_need rfl (rd_false rfl (rd_need rfl (rd_again (go ?_ _ _ ?_ ?_ ?_) hmu))))
      · unfold ruleK
        exact decide_eq_true (fun hh => by omega)
      · rfl
      · unfold ruleL lk3
        rw [if_pos hx]
      · simp
    · have hx' : ¬ ix x 0 = ((0 : Nat) : Int) := by omega
      refine rd_neg hx' (rd_pos hx (rd_yes ⟨hp, h1, h2⟩ (rd_need rfl (rd_false rfl (rd_need rfl (rd_again (go ?_ _ _ ?_ ?_ ?_) hmu))))))
      · unfold ruleK
        exact decide_eq_true (fun hh => by omega)
      · rfl
      · unfold ruleL
        rw [if_neg (by omega), if_pos hx]
        rfl
      · simp
    · have hx0 : ¬ ix x 0 = ((0 : Nat) : Int) := by omega
      have hx1 : ¬ ix x 0 = ((1 : Nat) : Int) := by omega
      refine rd_neg hx0 (rd_neg hx1 (rd_dec hx (rd_yes ⟨hp, h1.1, h1.2, h2⟩ ?_)))
      have hr : ruleL c.I w.L x = closO c.I w.L (ix x 1).toNat (lx x 2) := by unfold ruleL; rw [if_neg (by omega), if_neg (by omega)]
      have e3 : (((ix x 1).toNat : Nat) : Int) = ix x 1 := by omega
      refine rd_ite (fun hem => ?_) fun hem => ?_
      · refine rd_need rfl (rd_false rfl (rd_need rfl (rd_again (go ?_ _ _ ?_ ?_ ?_) hmu)))
        · unfold ruleK
          exact decide_eq_true (fun _ hh => by rw [hem] at hh; cases hh)
        · rfl
        · rw [hr]
          unfold closO
          rw [if_pos hem, e3]
          rfl
        · simp
      · refine rd_if (fun hgt => rd_out ?_) fun hle => rd_need rfl (rd_false rfl (rd_need rfl (rd_again (go ?_ _ _ ?_ ?_ ?_) hmu)))
        · have hk : ruleK c.I w.L x = false := by
            unfold ruleK
            exact decide_eq_false (fun hh => by have := hh hx hem; omega)
          rw [hk, Bool.false_and] at h
          exact h
        · unfold ruleK
          exact decide_eq_true (fun _ _ => by omega)
        · rfl
        · rw [hr]
          unfold closO
          rw [if_neg (by rw [hem]; exact Bool.false_ne_true), e3]
          rfl
        · simp
  · rename_i hd nn m i c f w ok z ll l k
    obtain ⟨hp, h⟩ := need_some h
    rw [yes_iff] at hp
    obtain ⟨e0, hp, hv, hn, hm, hi0, hi1, hll, hkl⟩ := hp
    have hb := big_eq
    have hl := hv.1
    refine ⟨by rw [fuelC]; simp; omega, ?_⟩
    rw [roundTK_head (j := hd) (n := 1) e0 (by decide), show roundTK C (mkTab sp57 lp57 sw57) 57 (loopOf C.P 57 4) 3 l57_4 [.i 1, nn, m, i, c, f, w, ok, z, ll, l, k] = _ from t57_4_1 nn m i c f w ok z ll l k]
    obtain ⟨j, hj⟩ : ∃ j : Nat, i.I = j := ⟨i.I.toNat, by omega⟩
    have t1 : ∀ y : List D, List.take 1 [y] = [y] := fun _ => rfl
    have t2 : ∀ y z : List D, List.take 2 [y, z] = [y, z] := fun _ _ => rfl
    have t3 : ∀ q : Nat, List.take 2 (afterL c.I w.L q) = afterL c.I w.L q := fun _ => rfl
    have t4 : List.take k.L.length k.L = k.L := List.take_length
    simp only [hj, hm, hn, hll, Int.toNat_natCast, rD_def, ix_def, lx_def, Nat.reduceAdd, t4, bytes58] at h hi0 hi1 hkl ⊢
    refine rd_if (fun hlt => ?_) fun hge => rd_out ?_
    · have hjl : j < l.L.length := by omega
      have hx := hv.2 j hjl
      rw [wrap_succ (by omega)]
      have e2 : linksU c.I w.L l.L j (l.L.length - j) = ruleL c.I w.L (rD l.L j) ++ linksU c.I w.L l.L (j + 1) (l.L.length - (j + 1)) := by
        rw [show l.L.length - j = (l.L.length - (j + 1)) + 1 by omega]
        rfl
      rw [all_cons hjl, e2, show rulesK c.I w.L l.L j = ruleK c.I w.L (rD l.L j) from rfl] at h
      generalize rD l.L j = x at h hx ⊢
      have hmu : (((l.L.length : Nat) : Int) - ((j + 1 : Nat) : Int)).toNat < (m.I - i.I).toNat := by omega
      have go : ruleK c.I w.L x = true → ∀ (y : List (List D)) (q : Int), q = ((k.L.length + y.length : Nat) : Int) → ruleL c.I w.L x = y → y.length ≤ 2 → (G57_4 [.i 1, .i (l.L.length : Int), .i (l.L.length : Int), .i ((j + 1 : Nat) : Int), .i c.I, .i f.I, .l w.L, .b ok.B, .i z.I, .i q, .l l.L, .l (k.L ++ y)]).run = some rr := fun hk y q hq hy hy2 => by
        subst hq
        rw [hk, Bool.true_and, hy, ← List.append_assoc] at h
        refine (need_yes ⟨rfl, hp, hv, rfl, rfl, by simp only [I_i]; omega, by simp only [I_i, L_l]; omega, by simp only [I_i, L_l, List.length_append], by simp only [I_i, L_l, List.length_append]; omega⟩).trans ?_
        simp only [I_i, L_l, Int.toNat_natCast]
        exact h
      refine rd_dec (by omega) (rd_dec (by omega) ?_)
      rcases hx with hx | ⟨hx, h1, h2⟩ | ⟨hx, h1, h2⟩
      · refine rd_pos hx (rd_need rfl (rd_false rfl (rd_dec (by omega) (rd_again (go ?_ _ _ ?_ ?_ ?_) hmu))))
        · unfold ruleK
          exact decide_eq_true (fun hh => by omega)
        · rfl
        · unfold ruleL
          rw [if_pos hx]
          rfl
        · simp
      · have hx' : ¬ ix x 0 = ((0 : Nat) : Int) := by omega
        refine rd_neg hx' (rd_pos hx (rd_yes ⟨hp, h1, h2⟩ (rd_need rfl (rd_false rfl (rd_dec (by omega) (rd_again (go ?_ _ _ ?_ ?_ ?_) hmu))))))
        · unfold ruleK
          exact decide_eq_true (fun hh => by omega)
        · rfl
        · unfold ruleL
          rw [if_neg (by omega), if_pos hx]
          rfl
        · simp [afterL]
      · have hx0 : ¬ ix x 0 = ((0 : Nat) : Int) := by omega
        have hx1 : ¬ ix x 0 = ((1 : Nat) : Int) := by omega
        refine rd_neg hx0 (rd_neg hx1 (rd_dec hx (rd_yes ⟨hp, h1.1, h1.2, h2⟩ ?_)))
        have hr : ruleL c.I w.L x = closO c.I w.L (ix x 1).toNat (lx x 2) := by unfold ruleL; rw [if_neg (by omega), if_neg (by omega)]
        have e3 : (((ix x 1).toNat : Nat) : Int) = ix x 1 := by omega
        refine rd_ite (fun hem => ?_) fun hem => ?_
        · refine rd_need rfl (rd_false rfl (rd_dec (by omega) (rd_again (go ?_ _ _ ?_ ?_ ?_) hmu)))
          · unfold ruleK
            exact decide_eq_true (fun _ hh => by rw [hem] at hh; cases hh)
          · rfl
          · rw [hr]
            unfold closO
            rw [if_pos hem, e3]
            rfl
          · simp
        · refine rd_if (fun hgt => rd_out ?_) fun hle => rd_need rfl (rd_false rfl (rd_dec (by omega) (rd_again (go ?_ _ _ ?_ ?_ ?_) hmu)))
          · have hk : ruleK c.I w.L x = false := by
              unfold ruleK
              exact decide_eq_false (fun hh => by have := hh hx hem; omega)
            rw [hk, Bool.false_and] at h
            exact h
          · unfold ruleK
            exact decide_eq_true (fun _ _ => by omega)
          · rfl
          · rw [hr]
            unfold closO
            rw [if_neg (by rw [hem]; exact Bool.false_ne_true), e3]
            rfl
          · simp
    · rw [show l.L.length - j = 0 by omega] at h
      simp only [allFrom, linksU, List.append_nil] at h
      exact h
  · cases h
theorem ok57_9 (n : Nat) : LoopSimK C (n + 2) 3 57 (loopOf C.P 57 9) (mkLK 3 l57_9 G57_9) := by
  refine loop_ofK hC (sp := sp57) (lp := lp57) (sw := sw57) ⟨ok104 n, ok107 n, ok108 n, trivial⟩ ⟨ok79 (n + 1), ok68 (n + 1), trivial⟩ 3 [] (by kernel_rfl) rfl (fun k hk => by cases hk) (by kernel_rfl) (fun ds => ((ds.getD 1 default).I - (ds.getD 2 default).I).toNat) fun ds rr h => ?_
  unfold G57_9 at h
  split at h
  · rename_i hd m i c f w ok z ll r
    obtain ⟨hp, h⟩ := need_some h
    rw [yes_iff] at hp
    obtain ⟨e0, h1, h2, h3, h4, h5⟩ := hp
    have hb := big_eq
    refine ⟨by rw [fuelC]; simp; omega, ?_⟩
    rw [roundTK_head (j := hd) (n := 1) e0 (by decide), show roundTK C (mkTab sp57 lp57 sw57) 57 (loopOf C.P 57 9) 3 l57_9 [.i 1, m, i, c, f, w, ok, z, ll, r] = _ from t57_9_1 m i c f w ok z ll r]
    obtain ⟨q, hq⟩ : ∃ q : Nat, i.I = q := ⟨i.I.toNat, by omega⟩
    have e1 : [[D.i 0, D.i (q : Int), D.i 0]].take 1 = [[D.i 0, D.i (q : Int), D.i 0]] := rfl
    simp only [hq, h4, Int.toNat_natCast, e1, List.length_cons, List.length_nil, Nat.zero_add, List.take_length, bytes58] at h h2 h5 ⊢
    refine rd_if (fun hlt => ?_) fun hge => rd_out ?_
    · refine rd_need rfl (rd_false rfl (rd_dec (by omega) ?_))
      rw [wrap_succ (by omega)]
      have e2 : (m.I - (q : Int)).toNat = (m.I - ((q + 1 : Nat) : Int)).toNat + 1 := by omega
      refine rd_again ((need_yes ⟨rfl, by simp only [I_i]; omega, by simp only [I_i]; omega, h3, by simp only [I_i, L_l, List.length_append, List.length_cons, List.length_nil], by simp only [I_i, L_l, List.length_append, List.length_cons, List.length_nil]; omega⟩).trans ?_) (show (m.I - ((q + 1 : Nat) : Int)).toNat < (m.I - i.I).toNat by omega)
      rw [← h]
      simp only [L_l, I_i, Int.toNat_natCast, e2, extraF_snoc]
      rfl
    · rw [← h]
      have e3 : (m.I - (q : Int)).toNat = 0 := by omega
      simp only [e3, extraF, List.append_nil, run_leaf]
  · cases h
end Go.Proofs.Ytipbcpobnciccaa
namespace Go.Proofs.Ytipbcpobnciccaa
open Go.Lite
def s72 : Sig := ⟨[.agg [.k (.int .i64), .k (.int .i64), .k (.ro [.int .i64, .int .i64, .int .i64, .int .i64, .bool, .int .i64, .int .i64, .ro [.int .i64, .int .i64, .int .i64]])], .k (.ro [.int .i64]), .k (.ro [.int .i64])], [(.tup [.agg [.sl 0 1, .sl 1 1, .sl 2 1, .sl 3 1], .k .bool], [.row [.int .i64], .row [.int .i64], .row [.int .i64], .row [.int .i64]])]⟩
def l72_5 : LSig := mkLS [1, 3, 6, 8, 9, 10] [(237, [(1, .k (.ro [.int .i64])), (3, .ptr 0 3 0 0), (6, .ptr 1 4 0 0), (8, .k (.int .i64)), (9, .ptr 2 4 0 0), (10, .k .bool)], [.box [.k (.int .i64), .k (.int .i64), .k (.ro [.int .i64, .int .i64, .int .i64, .int .i64, .bool, .int .i64, .int .i64, .ro [.int .i64, .int .i64, .int .i64]])], .box [.nils, .nils, .nils, .nils], .box [.sl 3 1, .sl 4 1, .sl 5 1, .sl 6 1], .row [.int .i64], .row [.int .i64], .row [.int .i64], .row [.int .i64]])] [(.exit 0, [3, 6, 8, 9], [(237, [(3, .ptr 0 3 0 0), (6, .ptr 1 4 0 0), (8, .k (.int .i64)), (9, .ptr 2 4 0 0)], [.box [.k (.int .i64), .k (.int .i64), .k (.ro [.int .i64, .int .i64, .int .i64, .int .i64, .bool, .int .i64, .int .i64, .ro [.int .i64, .int .i64, .int .i64]])], .box [.nils, .nils, .nils, .nils], .box [.sl 3 1, .sl 4 1, .sl 5 1, .sl 6 1], .row [.int .i64], .row [.int .i64], .row [.int .i64], .row [.int .i64]])])]
def l72_8 : LSig := mkLS [1, 3, 6, 8, 9, 10, 11] [(237, [(1, .k (.ro [.int .i64])), (3, .ptr 0 3 0 0), (6, .ptr 1 4 0 0), (8, .k (.int .i64)), (9, .ptr 2 4 0 0), (10, .k .bool), (11, .k (.int .i64))], [.box [.k (.int .i64), .k (.int .i64), .k (.ro [.int .i64, .int .i64, .int .i64, .int .i64, .bool, .int .i64, .int .i64, .ro [.int .i64, .int .i64, .int .i64]])], .box [.nils, .nils, .nils, .nils], .box [.sl 3 1, .sl 4 1, .sl 5 1, .sl 6 1], .row [.int .i64], .row [.int .i64], .row [.int .i64], .row [.int .i64]])] [(.exit 2, [1, 3, 6, 8, 9, 10], [(237, [(1, .k (.ro [.int .i64])), (3, .ptr 0 3 0 0), (6, .ptr 1 4 0 0), (8, .k (.int .i64)), (9, .ptr 2 4 0 0), (10, .k .bool)], [.box [.k (.int .i64), .k (.int .i64), .k (.ro [.int .i64, .int .i64, .int .i64, .int .i64, .bool, .int .i64, .int .i64, .ro [.int .i64, .int .i64, .int .i64]])], .box [.nils, .nils, .nils, .nils], .box [.sl 3 1, .sl 4 1, .sl 5 1, .sl 6 1], .row [.int .i64], .row [.int .i64], .row [.int .i64], .row [.int .i64]])])]
def l72_32 : LSig := mkLS [3, 6, 8, 9, 16] [(237, [(3, .ptr 0 3 0 0), (6, .ptr 1 4 0 0), (8, .k (.int .i64)), (9, .ptr 2 4 0 0), (16, .k (.int .i64))], [.box [.k (.int .i64), .k (.int .i64), .k (.ro [.int .i64, .int .i64, .int .i64, .int .i64, .bool, .int .i64, .int .i64, .ro [.int .i64, .int .i64, .int .i64]])], .box [.nils, .nils, .nils, .nils], .box [.sl 3 1, .sl 4 1, .sl 5 1, .sl 6 1], .row [.int .i64], .row [.int .i64], .row [.int .i64], .row [.int .i64]])] [(.exit 4, [3, 6, 9], [(237, [(3, .ptr 0 3 0 0), (6, .ptr 1 4 0 0), (9, .ptr 2 4 0 0)], [.box [.k (.int .i64), .k (.int .i64), .k (.ro [.int .i64, .int .i64, .int .i64, .int .i64, .bool, .int .i64, .int .i64, .ro [.int .i64, .int .i64, .int .i64]])], .box [.nils, .nils, .nils, .nils], .box [.sl 3 1, .sl 4 1, .sl 5 1, .sl 6 1], .row [.int .i64], .row [.int .i64], .row [.int .i64], .row [.int .i64]])])]
def s42 : Sig := ⟨[.agg [.k (.int .i64), .k (.int .i64), .k (.ro [.int .i64, .int .i64, .int .i64, .int .i64, .bool, .int .i64, .int .i64, .ro [.int .i64, .int .i64, .int .i64]])]], [(.tup [.agg [.sl 0 1, .sl 1 1, .sl 2 1, .sl 3 1], .k (.int .i64)], [.row [.int .i64], .row [.int .i64], .row [.int .i64], .row [.int .i64]]), (.tup [.agg [.nils, .nils, .nils, .nils], .k (.int .i64)], [])]⟩
def l42_4 : LSig := mkLS [1, 2, 4, 5, 6] [(90, [(1, .ptr 0 3 0 0), (2, .ptr 1 4 0 0), (4, .k (.int .i64)), (5, .sl 2 1), (6, .k (.int .i64))], [.box [.k (.int .i64), .k (.int .i64), .k (.ro [.int .i64, .int .i64, .int .i64, .int .i64, .bool, .int .i64, .int .i64, .ro [.int .i64, .int .i64, .int .i64]])], .box [.nils, .nils, .nils, .nils], .row [.int .i64]])] [(.exit 0, [1, 2, 4, 5], [(90, [(1, .ptr 0 3 0 0), (2, .ptr 1 4 0 0), (4, .k (.int .i64)), (5, .sl 2 1)], [.box [.k (.int .i64), .k (.int .i64), .k (.ro [.int .i64, .int .i64, .int .i64, .int .i64, .bool, .int .i64, .int .i64, .ro [.int .i64, .int .i64, .int .i64]])], .box [.nils, .nils, .nils, .nils], .row [.int .i64]])])]
def l42_9 : LSig := mkLS [1, 2, 4, 5, 7] [(90, [(1, .ptr 0 3 0 0), (2, .ptr 1 4 0 0), (4, .k (.int .i64)), (5, .sl 2 1), (7, .k (.int .i64))], [.box [.k (.int .i64), .k (.int .i64), .k (.ro [.int .i64, .int .i64, .int .i64, .int .i64, .bool, .int .i64, .int .i64, .ro [.int .i64, .int .i64, .int .i64]])], .box [.nils, .nils, .nils, .nils], .row [.int .i64]])] [(.ret, [2, 3], [(90, [(2, .ptr 0 4 0 0), (3, .k (.int .i64))], [.box [.sl 1 1, .sl 2 1, .sl 3 1, .sl 4 1], .row [.int .i64], .row [.int .i64], .row [.int .i64], .row [.int .i64]]), (90, [(2, .ptr 0 4 0 0), (3, .k (.int .i64))], [.box [.nils, .nils, .nils, .nils]])]), (.exit 2, [2], [(90, [(2, .ptr 0 4 0 0)], [.box [.nils, .nils, .nils, .nils]])])]
def l42_15 : LSig := mkLS [1, 2, 4, 5, 7, 10] [(90, [(1, .ptr 0 3 0 0), (2, .ptr 1 4 0 0), (4, .k (.int .i64)), (5, .sl 2 1), (7, .k (.int .i64)), (10, .k (.int .i64))], [.box [.k (.int .i64), .k (.int .i64), .k (.ro [.int .i64, .int .i64, .int .i64, .int .i64, .bool, .int .i64, .int .i64, .ro [.int .i64, .int .i64, .int .i64]])], .box [.nils, .nils, .nils, .nils], .row [.int .i64]])] [(.exit 4, [1, 2, 4, 5, 7, 10], [(90, [(1, .ptr 0 3 0 0), (2, .ptr 1 4 0 0), (4, .k (.int .i64)), (5, .sl 2 1), (7, .k (.int .i64)), (10, .k (.int .i64))], [.box [.k (.int .i64), .k (.int .i64), .k (.ro [.int .i64, .int .i64, .int .i64, .int .i64, .bool, .int .i64, .int .i64, .ro [.int .i64, .int .i64, .int .i64]])], .box [.nils, .nils, .nils, .nils], .row [.int .i64]])])]
def s56 : SigW := ⟨[.agg [.k (.int .i64), .k (.int .i64), .k (.ro [.int .i64, .int .i64, .int .i64, .int .i64, .bool, .int .i64, .int .i64, .ro [.int .i64, .int .i64, .int .i64]])]], [], [(.fn 77 [] [.ptr 0 3 0 0], [.box [.k (.int .i64), .k (.int .i64), .k (.ro [.int .i64, .int .i64, .int .i64, .int .i64, .bool, .int .i64, .int .i64, .ro [.int .i64, .int .i64, .int .i64]])]])]⟩
def s77 : SigI := ⟨[.yl, .ptr 0 3 0 0], [.box [.k (.int .i64), .k (.int .i64), .k (.ro [.int .i64, .int .i64, .int .i64, .int .i64, .bool, .int .i64, .int .i64, .ro [.int .i64, .int .i64, .int .i64]])]]⟩
def y77 : YS := mkY [.sl 0 1] [.row [.int .i64]] true
def l77_2 : LSig := mkLS [0, 1, 3, 12, 13, 14] [(69, [(0, .yl), (1, .ptr 0 3 0 0), (3, .sl 1 1), (12, .k (.ro [.int .i64, .int .i64, .int .i64, .int .i64, .bool, .int .i64, .int .i64, .ro [.int .i64, .int .i64, .int .i64]])), (13, .k (.int .i64)), (14, .k (.int .i64))], [.box [.k (.int .i64), .k (.int .i64), .k (.ro [.int .i64, .int .i64, .int .i64, .int .i64, .bool, .int .i64, .int .i64, .ro [.int .i64, .int .i64, .int .i64]])], .row [.int .i64]])] [(.exit 0, [0, 1, 3], [(69, [(0, .yl), (1, .ptr 0 3 0 0), (3, .sl 1 1)], [.box [.k (.int .i64), .k (.int .i64), .k (.ro [.int .i64, .int .i64, .int .i64, .int .i64, .bool, .int .i64, .int .i64, .ro [.int .i64, .int .i64, .int .i64]])], .row [.int .i64]])])]
def l77_7 : LSig := mkLS [0, 1, 3] [(69, [(0, .yl), (1, .ptr 0 3 0 0), (3, .sl 1 1)], [.box [.k (.int .i64), .k (.int .i64), .k (.ro [.int .i64, .int .i64, .int .i64, .int .i64, .bool, .int .i64, .int .i64, .ro [.int .i64, .int .i64, .int .i64]])], .row [.int .i64]])] [(.ret, [], [(69, [], [.box [.k (.int .i64), .k (.int .i64), .k (.ro [.int .i64, .int .i64, .int .i64, .int .i64, .bool, .int .i64, .int .i64, .ro [.int .i64, .int .i64, .int .i64]])]])])]
def l77_9 : LSig := mkLS [0, 1, 3, 6] [(69, [(0, .yl), (1, .ptr 0 3 0 0), (3, .sl 1 1), (6, .k (.int .i64))], [.box [.k (.int .i64), .k (.int .i64), .k (.ro [.int .i64, .int .i64, .int .i64, .int .i64, .bool, .int .i64, .int .i64, .ro [.int .i64, .int .i64, .int .i64]])], .row [.int .i64]])] [(.exit 4, [0, 1, 3, 6], [(69, [(0, .yl), (1, .ptr 0 3 0 0), (3, .sl 1 1), (6, .k (.int .i64))], [.box [.k (.int .i64), .k (.int .i64), .k (.ro [.int .i64, .int .i64, .int .i64, .int .i64, .bool, .int .i64, .int .i64, .ro [.int .i64, .int .i64, .int .i64]])], .row [.int .i64]])])]
end Go.Proofs.Ytipbcpobnciccaa
namespace Go.Proofs.Ytipbcpobnciccaa
open Go.Lite
noncomputable section
def stD (c : Int) (w ch d : List (List D)) (j : Nat) : Int :=
  let a := if 0 < j then max (rg d j) (rg d (j - 1) + leW c w (j - 1)) else rg d j
  let b := if j < w.length then max a (fromF w ch j + ix (w.getD j []) 1) else a
  if j < w.length then max b (rg d (j + 1) - moW c w j) else b
abbrev SSt2 := List (List D) × Bool
def swS (c : Int) (w ch : List (List D)) (j : Nat) (x : SSt2) : SSt2 := if stD c w ch x.1 j ≠ rg x.1 j then (rs x.1 j (stD c w ch x.1 j), false) else x
def sweepF (c : Int) (w ch : List (List D)) : Nat → Nat → SSt2 → SSt2
  | _, 0, x => x
  | j, k + 1, x => sweepF c w ch (j + 1) k (swS c w ch j x)
def dueOK (c f : Int) (w ch d : List (List D)) : Prop := d.length = w.length + 1 ∧ canon d ∧ f ≤ rg d 0 ∧ (∀ j, 0 ≤ rg d j) ∧ ∀ j, rg d j ≤ rg (dueL c f w ch) j
def tabOK (c f : Int) (w ch : List (List D)) : Prop := planB c f w = true ∧ chOK w ch
def lenN (x : D) : D := .i (x.I.toNat : Nat)
def G72_5 (ds : List D) : T (Ex × List D) := match ds with
  | [ch, r, s, c, f, w, n1, n2, n3, n4, du, cl, op, chr] => .need (yes (tabOK c.I f.I w.L ch.L ∧ r.I = w.L.length ∧ n1.I = w.L.length + 1 ∧ dueOK c.I f.I w.L ch.L du.L ∧ (s.B = true → du.L = dueL c.I f.I w.L ch.L)))
      (.leaf (.exit 0, [.i r.I, .i c.I, .i f.I, .l w.L, lenN n1, lenN n2, lenN n3, lenN n4, .l (dueL c.I f.I w.L ch.L), .l cl.L, .l op.L, .l chr.L]))
  | _ => .fail
def G72_8 (ds : List D) : T (Ex × List D) := match ds with
  | [ch, r, s, j, c, f, w, n1, n2, n3, n4, du, cl, op, chr] => .need (yes (tabOK c.I f.I w.L ch.L ∧ r.I = w.L.length ∧ n1.I = w.L.length + 1 ∧ dueOK c.I f.I w.L ch.L du.L ∧ 0 ≤ j.I ∧ j.I ≤ r.I + 1))
      (.leaf (.exit 2, [.l ch.L, .i r.I, .b (sweepF c.I w.L ch.L j.I.toNat (w.L.length + 1 - j.I.toNat) (du.L, s.B)).2, .i c.I, .i f.I, .l w.L, lenN n1, lenN n2, lenN n3, lenN n4, .l (sweepF c.I w.L ch.L j.I.toNat (w.L.length + 1 - j.I.toNat) (du.L, s.B)).1, .l cl.L, .l op.L, .l chr.L]))
  | _ => .fail
def zerR (n : Nat) : List (List D) := List.replicate n [.i 0]
def G72_32 (ds : List D) : T (Ex × List D) := match ds with
  | [r, i, c, f, w, n1, n2, n3, n4, du, cl, op, chr] => .need (yes (planB c.I f.I w.L = true ∧ r.I = w.L.length ∧ (0 ≤ i.I ∧ i.I ≤ r.I) ∧ n1.I = w.L.length + 1 ∧ n2.I = w.L.length ∧ n3.I = w.L.length ∧ du.L.length = w.L.length + 1 ∧ (∀ j, 0 ≤ rg du.L j ∧ rg du.L j ≤ 2000000000) ∧
        cl.L = rowF (clG w.L (rg du.L)) 0 i.I.toNat ++ zerR (w.L.length - i.I.toNat) ∧ op.L = rowF (opG c.I w.L (rg du.L)) 0 i.I.toNat ++ zerR (w.L.length - i.I.toNat)))
      (.leaf (.exit 4, [.i c.I, .i f.I, .l w.L, lenN n1, lenN n2, lenN n3, lenN n4, .l du.L, .l (rowF (clG w.L (rg du.L)) 0 w.L.length), .l (rowF (opG c.I w.L (rg du.L)) 0 w.L.length), .l chr.L]))
  | _ => .fail
def clR (c f : Int) (w ch : List (List D)) : List (List D) := rowF (clG w (rg (dueL c f w ch))) 0 w.length
def opR (c f : Int) (w ch : List (List D)) : List (List D) := rowF (opG c w (rg (dueL c f w ch))) 0 w.length
def G72 (ds : List D) : T (List D) := match ds with
  | [c, f, w, ch, d0] => .need (yes (tabOK c.I f.I w.L ch.L ∧ d0.L = zerR (w.L.length + 1)))
      (.leaf [.i (w.L.length + 1 : Nat), .i w.L.length, .i w.L.length, .i ch.L.length, .b (duesOk c.I f.I w.L ch.L), .l (dueL c.I f.I w.L ch.L), .l (clR c.I f.I w.L ch.L), .l (opR c.I f.I w.L ch.L), .l ch.L])
  | _ => .fail
def hoursN (w : List (List D)) (j : Nat) : Int := (lx (w.getD j []) 7).length
def zeroC (w : List (List D)) (j : Nat) : Int := if hoursN w j = 0 then -1 else 0
def firstC (w : List (List D)) : List (List D) := rowF (zeroC w) 0 w.length
def carryF (w : List (List D)) : Nat → List (List D) → List (List D) × Int
  | 0, ch => (ch, -1)
  | k + 1, ch => if rg ch k + 1 ≥ hoursN w k then carryF w k (rs ch k (zeroC w k)) else (ch, k)
def stepC (x : List (List D) × Int) : List (List D) := rs x.1 x.2.toNat (rg x.1 x.2.toNat + 1)
def allC (w : List (List D)) : Nat → List (List D) → List (List D)
  | 0, _ => []
  | n + 1, ch => [.i ch.length, .l ch] :: (if (carryF w w.length ch).2 < 0 then [] else allC w n (stepC (carryF w w.length ch)))
def makeF (c f : Int) (w : List (List D)) : Nat → List (List D) → Int × List (List D)
  | 0, ch => (9, ch)
  | n + 1, ch => if duesOk c f w ch then (0, ch) else if (carryF w w.length ch).2 < 0 then (5, ch) else makeF c f w n (stepC (carryF w w.length ch))
def triesN : Nat := 20000
def foundC (c f : Int) (w : List (List D)) : Int × List (List D) := makeF c f w triesN (firstC w)
def prodF (w : List (List D)) : Nat → Nat
  | 0 => 1
  | k + 1 => prodF w k * (max 1 (hoursN w k)).toNat
def fewC (w : List (List D)) : Prop := prodF w w.length ≤ 1000000000000
def carOK (w ch : List (List D)) : Prop := chOK w ch ∧ canon ch
def G42_4 (ds : List D) : T (Ex × List D) := match ds with
  | [r, n, i, c, f, w, ch] => .need (yes (planB c.I f.I w.L = true ∧ r.I = w.L.length ∧ (0 ≤ i.I ∧ i.I ≤ r.I) ∧ n.I = w.L.length ∧ ch.L = rowF (zeroC w.L) 0 i.I.toNat ++ zerR (w.L.length - i.I.toNat)))
      (.leaf (.exit 0, [.i r.I, lenN n, .i c.I, .i f.I, .l w.L, .l (firstC w.L)]))
  | _ => .fail
def G42_15 (ds : List D) : T (Ex × List D) := match ds with
  | [r, n, t, j, c, f, w, ch] => .need (yes (planB c.I f.I w.L = true ∧ n.I = w.L.length ∧ carOK w.L ch.L ∧ -1 ≤ j.I ∧ j.I < w.L.length))
      (.leaf (.exit 4, [.i r.I, lenN n, .i t.I, .i (carryF w.L (j.I + 1).toNat ch.L).2, .i c.I, .i f.I, .l w.L, .l (carryF w.L (j.I + 1).toNat ch.L).1]))
  | _ => .fail
def G42_9 (ds : List D) : T (Ex × List D) := match ds with
  | [r, n, t, c, f, w, ch] => .need (yes (planB c.I f.I w.L = true ∧ r.I = w.L.length ∧ n.I = w.L.length ∧ carOK w.L ch.L ∧ 0 ≤ t.I ∧ t.I ≤ 20000))
      (.ite (decide ((makeF c.I f.I w.L (20000 - t.I).toNat ch.L).1 = 0))
        (.leaf (.ret, [.i 0, .i 0, .i (w.L.length + 1 : Nat), .i w.L.length, .i w.L.length, .i w.L.length, .l (dueL c.I f.I w.L (makeF c.I f.I w.L (20000 - t.I).toNat ch.L).2), .l (clR c.I f.I w.L (makeF c.I f.I w.L (20000 - t.I).toNat ch.L).2), .l (opR c.I f.I w.L (makeF c.I f.I w.L (20000 - t.I).toNat ch.L).2), .l (makeF c.I f.I w.L (20000 - t.I).toNat ch.L).2]))
        (.ite (decide ((makeF c.I f.I w.L (20000 - t.I).toNat ch.L).1 = 5)) (.leaf (.ret, [.i 1, .i 5])) (.leaf (.exit 2, []))))
  | _ => .fail
def G42 (ds : List D) : T (List D) := match ds with
  | [c, f, w] => .need (yes (planB c.I f.I w.L = true))
      (.ite (decide ((foundC c.I f.I w.L).1 = 0))
        (.leaf [.i 0, .i (w.L.length + 1 : Nat), .i w.L.length, .i w.L.length, .i w.L.length, .i 0, .l (dueL c.I f.I w.L (foundC c.I f.I w.L).2), .l (clR c.I f.I w.L (foundC c.I f.I w.L).2), .l (opR c.I f.I w.L (foundC c.I f.I w.L).2), .l (foundC c.I f.I w.L).2])
        (.leaf [.i 1, .i (foundC c.I f.I w.L).1]))
  | _ => .fail
def G56 (ds : List D) : T (List D) := match ds with
  | [c, f, w] => .leaf [.i c.I, .i f.I, .l w.L]
  | _ => .fail
def G77 (ds : List D) : T (List (List D)) := match ds with
  | [c, f, w] => .need (yes (planB c.I f.I w.L = true ∧ fewC w.L)) (.leaf (allC w.L (prodF w.L w.L.length) (firstC w.L)))
  | _ => .fail
def G77_2 (_ : Nat) (ds : List D) : T (Ex × List D) := match ds with
  | [g, n, w', m, i, c, f, w, ch] => .need (yes (planB c.I f.I w.L = true ∧ w'.L = w.L ∧ m.I = w.L.length ∧ n.I = w.L.length ∧ (0 ≤ i.I ∧ i.I ≤ m.I) ∧ ch.L = rowF (zeroC w.L) 0 i.I.toNat ++ zerR (w.L.length - i.I.toNat)))
      (.leaf (.exit 0, [.l g.L, lenN n, .i c.I, .i f.I, .l w.L, .l (firstC w.L)]))
  | _ => .fail
def valC (w ch : List (List D)) : Nat → Nat
  | 0 => 0
  | k + 1 => valC w ch k * (max 1 (hoursN w k)).toNat + (max 0 (rg ch k)).toNat
def restC (w ch : List (List D)) : Nat := prodF w w.length - valC w ch w.length
def G77_7 (q : Nat) (ds : List D) : T (Ex × List D) := match ds with
  | [g, n, c, f, w, ch] => .need (yes (planB c.I f.I w.L = true ∧ fewC w.L ∧ n.I = w.L.length ∧ carOK w.L ch.L ∧ g.L.length ≤ q))
      (.leaf (.ret, [.l (g.L ++ (allC w.L (restC w.L ch.L) ch.L).take (q + 1 - g.L.length)), .i c.I, .i f.I, .l w.L]))
  | _ => .fail
def G77_9 (_ : Nat) (ds : List D) : T (Ex × List D) := match ds with
  | [g, n, j, c, f, w, ch] => .need (yes (planB c.I f.I w.L = true ∧ n.I = w.L.length ∧ carOK w.L ch.L ∧ -1 ≤ j.I ∧ j.I < w.L.length))
      (.leaf (.exit 4, [.l g.L, lenN n, .i (carryF w.L (j.I + 1).toNat ch.L).2, .i c.I, .i f.I, .l w.L, .l (carryF w.L (j.I + 1).toNat ch.L).1]))
  | _ => .fail
end
end Go.Proofs.Ytipbcpobnciccaa
namespace Go.Proofs.Ytipbcpobnciccaa
open Go.Lite
set_option maxRecDepth 100000
theorem cpy_nil {α : Type} (l : List α) (i n : Nat) : cpy l [] i n = l := rfl
theorem rulesF_get {w ch : List (List D)} : ∀ (k i q : Nat), q < k → rD (rulesF w ch i k) (2 * q) = [.i 1, .i (((i + q : Nat) : Int) + 1)] ∧ rD (rulesF w ch i k) (2 * q + 1) = [.i 2, .i ((i + q : Nat) : Int), .l (optF w ch (i + q))]
  | k + 1, i, 0, _ => ⟨rfl, rfl⟩
  | k + 1, i, q + 1, h => by
    have := rulesF_get (w := w) (ch := ch) k (i + 1) q (by omega)
    rw [show i + 1 + q = i + (q + 1) by omega] at this
    exact this
section
variable {c f : Int} {w ch : List (List D)}
theorem rule_0 : rD (rulesP f w ch) 0 = [.i 0, .i f] := rfl
theorem rule_aft {q : Nat} (h : q < w.length) : rD (rulesP f w ch) (2 * q + 1) = [.i 1, .i ((q : Int) + 1)] := by
  have := (rulesF_get (w := w) (ch := ch) w.length 0 q h).1
  rw [Nat.zero_add] at this
  exact this
theorem rule_clo {q : Nat} (h : q < w.length) : rD (rulesP f w ch) (2 * q + 2) = [.i 2, .i (q : Int), .l (optF w ch q)] := by
  have := (rulesF_get (w := w) (ch := ch) w.length 0 q h).2
  rw [Nat.zero_add] at this
  exact this
theorem opt_empty (q : Nat) : (optF w ch q).isEmpty = !decide (0 ≤ rg ch q) := by
  unfold optF
  split
  · rename_i h; rw [decide_eq_true h]; rfl
  · rename_i h; rw [decide_eq_false h]; rfl
theorem ruleL_clo (q : Nat) : ruleL c w [.i 2, .i (q : Int), .l (optF w ch q)] = closL true c w ch q := by
  have e : ruleL c w [.i 2, .i (q : Int), .l (optF w ch q)] = closO c w q (optF w ch q) := rfl
  rw [e]
  unfold closO closL
  rw [opt_empty]
  by_cases h : 0 ≤ rg ch q
  · rw [if_neg (by rw [decide_eq_true h]; exact Bool.false_ne_true), if_pos h, if_pos rfl]
    unfold optF
    rw [if_pos h]
    rfl
  · rw [if_pos (by rw [decide_eq_false h]; rfl), if_neg h]
theorem ruleK_clo (q : Nat) : ruleK c w [.i 2, .i (q : Int), .l (optF w ch q)] = limJ c w ch q := by
  have e : ruleK c w [.i 2, .i (q : Int), .l (optF w ch q)] = decide ((2 : Int) = 2 → (optF w ch q).isEmpty = false → ix (w.getD q []) 1 + busyF c (w.getD q []) ≤ ix ((optF w ch q).getD 0 []) 2) := rfl
  rw [e, opt_empty]
  unfold limJ
  by_cases h : 0 ≤ rg ch q
  · have e2 : ix ((optF w ch q).getD 0 []) 2 = ix (winF w ch q) 2 := by unfold optF; rw [if_pos h]; rfl
    rw [e2]
    simp [h]
  · simp [h]
theorem links_rules : ∀ (k i : Nat), i + k ≤ w.length → linksU c w (rulesP f w ch) (2 * i + 1) (2 * k) = linksF true c w ch i k
  | 0, _, _ => rfl
  | k + 1, i, h => by
    have ih := links_rules (k := k) (i := i + 1) (by omega)
    rw [show 2 * (k + 1) = 2 * k + 1 + 1 by omega]
    simp only [linksU]
    rw [show 2 * i + 1 + 1 = 2 * i + 2 by omega, rule_aft (show i < w.length by omega), rule_clo (show i < w.length by omega), ruleL_clo, show 2 * i + 2 + 1 = 2 * (i + 1) + 1 by omega, ih]
    have e : ruleL c w [.i 1, .i ((i : Int) + 1)] = afterL c w i := by
      have : ruleL c w [.i 1, .i ((i : Int) + 1)] = afterL c w ((i : Int) + 1 - 1).toNat := rfl
      rw [this, show ((i : Int) + 1 - 1).toNat = i by omega]
    rw [e]
    simp only [linksF, linkJ, List.append_assoc]
theorem links_plan : linksU c w (rulesP f w ch) 0 (rulesP f w ch).length = linksP true c f w ch := by
  rw [len_rulesP]
  simp only [linksU]
  rw [show 0 + 1 = 2 * 0 + 1 by rfl, links_rules w.length 0 (by omega)]
  rfl
theorem lim_rules : ∀ (k i : Nat), i + k ≤ w.length → allFrom (rulesK c w (rulesP f w ch)) (2 * i + 1) (2 * k) = allFrom (limJ c w ch) i k
  | 0, _, _ => rfl
  | k + 1, i, h => by
    have ih := lim_rules (k := k) (i := i + 1) (by omega)
    rw [show 2 * (k + 1) = 2 * k + 1 + 1 by omega]
    simp only [allFrom, rulesK]
    rw [show 2 * i + 1 + 1 = 2 * i + 2 by omega, rule_aft (show i < w.length by omega), rule_clo (show i < w.length by omega), ruleK_clo, show 2 * i + 2 + 1 = 2 * (i + 1) + 1 by omega]
    have e : ruleK c w [.i 1, .i ((i : Int) + 1)] = true := by
      have : ruleK c w [.i 1, .i ((i : Int) + 1)] = decide ((1 : Int) = 2 → (D.i 1).L.isEmpty = false → _) := rfl
      rw [this]
      exact decide_eq_true (fun h => by omega)
    rw [e, Bool.true_and]
    rw [← ih]
theorem lim_plan : allFrom (rulesK c w (rulesP f w ch)) 0 (rulesP f w ch).length = limB c w ch := by
  rw [len_rulesP]
  simp only [allFrom]
  rw [show 0 + 1 = 2 * 0 + 1 by rfl, lim_rules w.length 0 (by omega)]
  have e : rulesK c w (rulesP f w ch) 0 = true := by
    unfold rulesK
    rw [rule_0]
    unfold ruleK
    exact decide_eq_true (fun h => by
      have h : (0 : Int) = 2 := h
      omega)
  rw [e, Bool.true_and]
  rfl
theorem rules_valid (hp : planB c f w = true) (hc : chOK w ch) : rulesV w (rulesP f w ch) := by
  have h1 := (plan_of hp).2.1
  refine ⟨by rw [len_rulesP]; omega, fun j hj => ?_⟩
  rw [len_rulesP] at hj
  cases j with
  | zero => exact .inl rfl
  | succ j =>
    obtain ⟨q, hq⟩ : ∃ q, j = 2 * q ∨ j = 2 * q + 1 := ⟨j / 2, by omega⟩
    rcases hq with rfl | rfl
    · rw [rule_aft (by omega)]
      refine .inr (.inl ⟨rfl, ?_, ?_⟩)
      · show (1 : Int) ≤ (q : Int) + 1
        omega
      · show (q : Int) + 1 ≤ w.length
        omega
    · rw [show 2 * q + 1 + 1 = 2 * q + 2 by rfl, rule_clo (by omega)]
      refine .inr (.inr ⟨rfl, ⟨?_, ?_⟩, fun he => ?_⟩)
      · show (0 : Int) ≤ (q : Int)
        omega
      · show (q : Int) < w.length
        omega
      · have he : (optF w ch q).isEmpty = false := he
        rw [opt_empty] at he
        have h0 : 0 ≤ rg ch q := by
          have : decide (0 ≤ rg ch q) = true := by simpa using he
          exact of_decide_eq_true this
        have hw := win_of hp hc (j := q) (by omega) h0
        show hourB (optF w ch q) 0 = true
        unfold optF
        rw [if_pos h0]
        exact decide_eq_true hw
end
theorem ok57 (n : Nat) : FnOK C (n + 3) 57 (mkF s57 G57) := by
  refine fn_ofD hC (sp := sp57) (lp := lp57) (sw := sw57) ⟨ok104 n, ok107 n, ok108 n, trivial⟩ ⟨ok79 (n + 1), ok68 (n + 1), trivial⟩ (by kernel_rfl) 3 [4, 9] (by kernel_rfl) (by kernel_rfl) (fun k hk L hL => by
      simp at hk
      rcases hk with rfl | rfl <;> cases hL
      · exact ok57_4 n
      · exact ok57_9 n) fun ds rr h => ?_
  unfold G57 at h
  split at h
  · rename_i c f w ch
    obtain ⟨hp, h⟩ := need_some h
    rw [yes_iff] at hp
    obtain ⟨hp, hc⟩ := hp
    refine (congrArg T.run (t57 c f w ch)).trans ?_
    obtain ⟨p0, p1, p2, p3⟩ := plan_of hp
    have hnet := net_plan (f := f.I) true hp hc
    have hgood := good_all hnet
    have w2 : IntKind.i64.wrap ((w.L.length : Int) + 2) = nP w.L := wrap_id (by omega) (by omega)
    have hn : nP w.L = (w.L.length : Int) + 2 := rfl
    have hnn : (nP w.L).toNat = w.L.length + 2 := by omega
    have hll := len_linksF (c := c.I) (w := w.L) (ch := ch.L) true w.L.length 0
    have hpl : (linksP true c.I f.I w.L ch.L).length ≤ 4 * w.L.length + 1 := by unfold linksP; simp only [List.length_cons]; omega
    have e1 : linksP true c.I f.I w.L ch.L ++ extraF 0 (nP w.L).toNat = allL (nP w.L) (linksP true c.I f.I w.L ch.L) := rfl
    have e2 : List.replicate (nP w.L).toNat [D.i 0] = zeros (nP w.L) := rfl
    have e3 : pushR (nP w.L) (allL (nP w.L) (linksP true c.I f.I w.L ch.L)) (zeros (nP w.L)) = pushP true c.I f.I w.L ch.L := rfl
    have lz := len_zeros (nP w.L)
    rw [hnn] at lz
    have t1 : Int.toNat 1 = 1 := rfl
    simp only [lim_plan, links_plan, w2, Int.toNat_natCast, Int.toNat_zero, Int.sub_zero, List.take_length, e1, e2, e3, bytes3, rg_def, t1, lz, cpy_nil]
    refine go_yes ⟨hp, hc⟩ (go_yes ⟨by trivial, hp, rules_valid hp hc, by trivial, by trivial, by trivial, by rw [len_rulesP]; omega⟩ ?_)
    unfold duesOk at h
    refine go_ite (fun hl => ?_) fun hl => ?_
    · rw [hl, Bool.true_and] at h
      have h1 : (0 : Int) ≤ 1 ∧ (1 : Int) ≤ ((w.L.length + 2 : Nat) : Int) := by omega
      refine go_yes ⟨by trivial, by omega, by omega, by omega, by trivial, by omega⟩ (go_dec ⟨by omega, by trivial, by omega, by omega⟩ (go_dec h1 (go_dec (by omega) (go_dec (by omega) (go_yes ⟨hgood, by trivial, by omega, bnd_zeros _ (by omega)⟩ (go_if (fun hge => ?_) fun hlt => ?_))))))
      · rw [← h, decide_eq_false (by omega)]
        rfl
      · have hneg : (pushP true c.I f.I w.L ch.L).2.2 < 0 := by omega
        obtain ⟨q1, q2, q3, -⟩ := push_plan true hp hc hneg
        rw [decide_eq_true hneg] at h
        refine go_dec (by omega) (go_dec (by omega) (go_false ?_ (go_dec h1 ?_)))
        · rw [q1]
          rfl
        · rw [← h, run_ite, if_pos rfl, show w.L.length + 2 - 1 = w.L.length + 1 by omega]
    · rw [hl, Bool.false_and] at h
      rw [← h]
      rfl
  · cases h
theorem ok67 (n : Nat) : FnOK C (n + 1) 67 (mkF s67 Gcl1) := by
  refine fn_ofS hC (sp := sp67) (lp := lp67) (sw := sw67) trivial trivial (by kernel_rfl) [] (by kernel_rfl) rfl (fun k hk => by cases hk) fun ds rr h => ?_
  unfold Gcl1 at h
  split at h
  · rename_i l
    obtain ⟨hp, h⟩ := need_some h
    rw [yes_iff] at hp
    obtain ⟨h1, h2⟩ := hp
    refine (congrArg T.run (t67 l)).trans ?_
    have hne : l.L.isEmpty = false := by cases hl : l.L with
      | nil => exact absurd hl h1
      | cons c cs => rfl
    have b3 : Try.prog.types[3].bytes = 8 := by kernel_rfl
    rw [b3]
    refine go_need (by rw [hne]; rfl) (go_false hne (go_dec (by omega) h))
  · cases h
theorem len_rowF (g : Nat → Int) : ∀ (k i : Nat), (rowF g i k).length = k
  | 0, _ => rfl
  | k + 1, i => by simp only [rowF, List.length_cons, len_rowF g k (i + 1)]
theorem rowF_snoc (g : Nat → Int) : ∀ (k i : Nat), rowF g i k ++ [[.i (g (i + k))]] = rowF g i (k + 1)
  | 0, _ => rfl
  | k + 1, i => by
    have := rowF_snoc g k (i + 1)
    rw [show i + 1 + k = i + (k + 1) by omega] at this
    simp only [rowF, List.cons_append] at this ⊢
    rw [this]
theorem rowF_get (g : Nat → Int) : ∀ (k i j : Nat), j < k → (rowF g i k).getD j [] = [.i (g (i + j))]
  | k + 1, i, 0, _ => rfl
  | k + 1, i, j + 1, h => by
    have := rowF_get g k (i + 1) j (by omega)
    rw [show i + 1 + j = i + (j + 1) by omega] at this
    exact this
theorem rg_rowF {g : Nat → Int} {k i j : Nat} (h : j < k) : rg (rowF g i k) j = g (i + j) := by
  unfold rg
  rw [rowF_get g k i j h]
  rfl
theorem canon_rowF (g : Nat → Int) (k i : Nat) : canon (rowF g i k) := by
  intro j hj
  rw [len_rowF] at hj
  rw [rowF_get g k i j hj, rg_rowF hj]
theorem rowF_ext {g g' : Nat → Int} : ∀ (k i : Nat), (∀ j, i ≤ j → j < i + k → g j = g' j) → rowF g i k = rowF g' i k
  | 0, _, _ => rfl
  | k + 1, i, h => by
    simp only [rowF]
    rw [h i (Nat.le_refl _) (by omega), rowF_ext k (i + 1) (fun j h1 h2 => h j (by omega) (by omega))]
theorem rep_cons (n : Nat) : zerR (n + 1) = [.i 0] :: zerR n := rfl
theorem rowF_rep (g : Nat → Int) (i k : Nat) (v : Int) (hv : v = g i) : rs (rowF g 0 i ++ zerR (k + 1)) i v = rowF g 0 (i + 1) ++ zerR k := by
  unfold rs
  rw [List.set_append_right _ _ (by rw [len_rowF]; exact Nat.le_refl _), len_rowF, Nat.sub_self, rep_cons, List.set_cons_zero, hv]
  have := rowF_snoc g i 0
  rw [Nat.zero_add] at this
  rw [← this, List.append_assoc]
  rfl
end Go.Proofs.Ytipbcpobnciccaa
namespace Go.Proofs.Ytipbcpobnciccaa
open Go.Lite
set_option maxRecDepth 100000
theorem rs_same {t : List (List D)} (h : canon t) (j : Nat) : rs t j (rg t j) = t := by
  by_cases hj : j < t.length
  · refine canon_ext (canon_rs h _ _) h (len_rs _ _ _) fun i hi => ?_
    rw [rg_rs hj]
    split
    · rename_i e; rw [e]
    · rfl
  · unfold rs
    exact List.set_eq_of_length_le (by omega)
section
variable {w : List (List D)}
theorem zero_eq (w : List (List D)) (j : Nat) : zeroC w j = min 0 (hoursN w j - 1) := by
  unfold zeroC hoursN
  by_cases h : ((lx (w.getD j []) 7).length : Int) = 0
  · rw [if_pos h, h]; rfl
  · rw [if_neg h]
    omega
theorem digit_of {ch : List (List D)} (hc : chOK w ch) {j : Nat} (hj : j < w.length) : (hoursN w j = 0 ∧ rg ch j = -1) ∨ (0 ≤ rg ch j ∧ rg ch j < hoursN w j) := by
  have := hc.2 j hj
  unfold hoursN
  split at this
  · rename_i h; exact .inl ⟨by omega, this⟩
  · exact .inr this
theorem digit_ok {ch : List (List D)} (hl : ch.length = w.length) (h : ∀ j, j < w.length → (hoursN w j = 0 ∧ rg ch j = -1) ∨ (0 ≤ rg ch j ∧ rg ch j < hoursN w j)) : chOK w ch := by
  refine ⟨hl, fun j hj => ?_⟩
  have := h j hj
  unfold hoursN at this
  split
  · rename_i e
    rcases this with h | h
    · exact h.2
    · omega
  · rcases this with h | h
    · omega
    · exact h
theorem zero_digit (j : Nat) : (hoursN w j = 0 ∧ zeroC w j = -1) ∨ (0 ≤ zeroC w j ∧ zeroC w j < hoursN w j) := by
  unfold zeroC
  by_cases h : hoursN w j = 0
  · rw [if_pos h]; exact .inl ⟨h, rfl⟩
  · rw [if_neg h]
    have : 0 ≤ hoursN w j := by unfold hoursN; omega
    exact .inr ⟨Int.le_refl _, by omega⟩
theorem first_ok : carOK w (firstC w) := by
  refine ⟨digit_ok (len_rowF _ _ _) fun j hj => ?_, canon_rowF _ _ _⟩
  unfold firstC
  rw [rg_rowF hj, Nat.zero_add]
  exact zero_digit j
theorem set_ok {ch : List (List D)} (h : carOK w ch) {k : Nat} (hk : k < w.length) {v : Int} (hv : (hoursN w k = 0 ∧ v = -1) ∨ (0 ≤ v ∧ v < hoursN w k)) : carOK w (rs ch k v) := by
  refine ⟨digit_ok (by rw [len_rs]; exact h.1.1) fun j hj => ?_, canon_rs h.2 _ _⟩
  rw [rg_rs (by rw [h.1.1]; exact hk)]
  split
  · rename_i e; subst e; exact hv
  · exact digit_of h.1 hj
theorem carry_ok : ∀ (k : Nat) {ch : List (List D)}, k ≤ w.length → carOK w ch → carOK w (carryF w k ch).1 ∧ -1 ≤ (carryF w k ch).2 ∧ (carryF w k ch).2 < k ∧ (0 ≤ (carryF w k ch).2 → rg (carryF w k ch).1 (carryF w k ch).2.toNat + 1 < hoursN w (carryF w k ch).2.toNat) ∧ ∀ j, k ≤ j → rg (carryF w k ch).1 j = rg ch j
  | 0, ch, _, h => ⟨h, by simp [carryF], by simp [carryF], by simp [carryF], fun _ _ => rfl⟩
  | k + 1, ch, hk, h => by
    simp only [carryF]
    by_cases hc : rg ch k + 1 ≥ hoursN w k
    · rw [if_pos hc]
      obtain ⟨a, b, c, d, e⟩ := carry_ok k (by omega) (set_ok h (by omega) (zero_digit (w := w) k))
      refine ⟨a, b, by omega, d, fun j hj => ?_⟩
      rw [e j (by omega), rg_rs (by rw [h.1.1]; omega), if_neg (by omega)]
    · rw [if_neg hc]
      exact ⟨h, by omega, by omega, fun _ => by simp only [Int.toNat_natCast]; omega, fun _ _ => rfl⟩
theorem step_ok {ch : List (List D)} (h : carOK w ch) (h0 : 0 ≤ (carryF w w.length ch).2) : carOK w (stepC (carryF w w.length ch)) := by
  obtain ⟨a, b, c, d, e⟩ := carry_ok w.length (Nat.le_refl _) h
  have hj : (carryF w w.length ch).2.toNat < w.length := by omega
  refine set_ok a hj ?_
  have h1 := digit_of a.1 hj
  have h2 := d h0
  rcases h1 with h1 | h1
  · omega
  · exact .inr ⟨by omega, h2⟩
theorem val_congr {ch ch' : List (List D)} : ∀ (k : Nat), (∀ j, j < k → rg ch j = rg ch' j) → valC w ch k = valC w ch' k
  | 0, _ => rfl
  | k + 1, h => by
    simp only [valC]
    rw [val_congr k (fun j hj => h j (by omega)), h k (by omega)]
theorem val_lt {ch : List (List D)} (hc : chOK w ch) : ∀ (k : Nat), k ≤ w.length → valC w ch k < prodF w k
  | 0, _ => Nat.zero_lt_one
  | k + 1, hk => by
    have ih := val_lt hc k (by omega)
    have hd := digit_of hc (show k < w.length by omega)
    have hL : (max 0 (rg ch k)).toNat < (max 1 (hoursN w k)).toNat := by omega
    simp only [valC, prodF]
    generalize (max 0 (rg ch k)).toNat = d at hL
    generalize (max 1 (hoursN w k)).toNat = L at hL ⊢
    calc valC w ch k * L + d < valC w ch k * L + L := by omega
      _ = (valC w ch k + 1) * L := by rw [Nat.add_mul, Nat.one_mul]
      _ ≤ prodF w k * L := Nat.mul_le_mul_right _ ih
theorem val_carry : ∀ (k : Nat) {ch : List (List D)}, k ≤ w.length → carOK w ch → ((carryF w k ch).2 < 0 → valC w ch k + 1 = prodF w k) ∧ (0 ≤ (carryF w k ch).2 → valC w (stepC (carryF w k ch)) k = valC w ch k + 1)
  | 0, ch, _, h => ⟨fun _ => rfl, fun h => by simp [carryF] at h⟩
  | k + 1, ch, hk, h => by
    have hkl : k < w.length := by omega
    have hd := digit_of h.1 hkl
    by_cases hc : rg ch k + 1 ≥ hoursN w k
    · have hset := set_ok h hkl (zero_digit (w := w) k)
      have hL : (max 0 (rg ch k)).toNat + 1 = (max 1 (hoursN w k)).toNat := by omega
      have hv : valC w (rs ch k (zeroC w k)) k = valC w ch k := val_congr k fun j hj => by rw [rg_rs (by rw [h.1.1]; exact hkl), if_neg (by omega)]
      obtain ⟨i1, i2⟩ := val_carry k (by omega) hset
      obtain ⟨a, b, c, d, e⟩ := carry_ok k (by omega) hset
      simp only [carryF]
      rw [if_pos hc]
      simp only [valC, prodF]
      generalize (max 1 (hoursN w k)).toNat = L at hL ⊢
      refine ⟨fun hn => ?_, fun hp => ?_⟩
      · have := i1 hn
        rw [hv] at this
        rw [← this, Nat.add_mul, Nat.one_mul]
        omega
      · have := i2 hp
        rw [hv] at this
        have e1 : rg (stepC (carryF w k (rs ch k (zeroC w k)))) k = zeroC w k := by
          unfold stepC
          rw [rg_rs (by rw [a.1.1]; omega), if_neg (by omega), e k (Nat.le_refl _), rg_rs (by rw [h.1.1]; exact hkl), if_pos rfl]
        have hz := zero_digit (w := w) k
        have e2 : (max 0 (zeroC w k)).toNat = 0 := by rw [zero_eq] at hz ⊢; omega
        rw [this, e1, e2, Nat.add_mul, Nat.one_mul]
        omega
    · simp only [carryF]
      rw [if_neg hc]
      refine ⟨fun hn => by simp only at hn; omega, fun _ => ?_⟩
      simp only [stepC, Int.toNat_natCast, valC]
      have hv : valC w (rs ch k (rg ch k + 1)) k = valC w ch k := val_congr k fun j hj => by rw [rg_rs (by rw [h.1.1]; exact hkl), if_neg (by omega)]
      rw [hv, rg_rs (by rw [h.1.1]; exact hkl), if_pos rfl]
      omega
theorem rest_last {ch : List (List D)} (h : carOK w ch) (hn : (carryF w w.length ch).2 < 0) : restC w ch = 1 := by
  have := (val_carry w.length (Nat.le_refl _) h).1 hn
  unfold restC
  omega
theorem rest_step {ch : List (List D)} (h : carOK w ch) (hn : 0 ≤ (carryF w w.length ch).2) : restC w ch = restC w (stepC (carryF w w.length ch)) + 1 := by
  have h1 := (val_carry w.length (Nat.le_refl _) h).2 hn
  have h2 := val_lt (step_ok h hn).1 w.length (Nat.le_refl _)
  unfold restC
  omega
theorem val_first : ∀ (k : Nat), k ≤ w.length → valC w (firstC w) k = 0
  | 0, _ => rfl
  | k + 1, hk => by
    simp only [valC]
    have hz := zero_digit (w := w) k
    have e2 : (max 0 (zeroC w k)).toNat = 0 := by rw [zero_eq] at hz ⊢; omega
    rw [val_first k (by omega)]
    unfold firstC
    rw [rg_rowF (by omega), Nat.zero_add, e2]
    omega
theorem rest_first : restC w (firstC w) = prodF w w.length := by
  unfold restC
  rw [val_first _ (Nat.le_refl _)]
  rfl
theorem all_rest {ch : List (List D)} (h : carOK w ch) : allC w (restC w ch) ch = [.i ch.length, .l ch] :: (if (carryF w w.length ch).2 < 0 then [] else allC w (restC w (stepC (carryF w w.length ch))) (stepC (carryF w w.length ch))) := by
  by_cases hn : (carryF w w.length ch).2 < 0
  · rw [rest_last h hn]
    simp only [allC]
    rw [if_pos hn, if_pos hn]
  · rw [rest_step h (by omega)]
    simp only [allC]
end
end Go.Proofs.Ytipbcpobnciccaa
namespace Go.Proofs.Ytipbcpobnciccaa
open Go.Lite
set_option maxRecDepth 100000
section
variable {c f : Int} {w ch : List (List D)}
theorem st_rng (ht : tabOK c f w ch) {d : List (List D)} (hd : dueOK c f w ch d) {j : Nat} (hj : j ≤ w.length) : rg d j ≤ stD c w ch d j ∧ stD c w ch d j ≤ rg (dueL c f w ch) j := by
  obtain ⟨-, -, -, -, h5⟩ := hd
  obtain ⟨-, -, h3, -, -⟩ := due_least (f := f) ht.1 ht.2
  obtain ⟨-, -, h4⟩ := h3
  have a0 := h5 j
  have a1 := h5 (j - 1)
  have a2 := h5 (j + 1)
  unfold stD
  simp only
  by_cases k1 : 0 < j
  · have b1 := h4 (j - 1) (by omega)
    rw [show j - 1 + 1 = j by omega] at b1
    rw [if_pos k1]
    by_cases k2 : j < w.length
    · have b2 := h4 j k2
      rw [if_pos k2, if_pos k2]
      omega
    · rw [if_neg k2, if_neg k2]
      omega
  · rw [if_neg k1]
    by_cases k2 : j < w.length
    · have b2 := h4 j k2
      rw [if_pos k2, if_pos k2]
      omega
    · rw [if_neg k2, if_neg k2]
      omega
theorem sw_ok (ht : tabOK c f w ch) {x : SSt2} (hd : dueOK c f w ch x.1) {j : Nat} (hj : j ≤ w.length) : dueOK c f w ch (swS c w ch j x).1 ∧ (∀ i, rg x.1 i ≤ rg (swS c w ch j x).1 i) := by
  have hr := st_rng ht hd hj
  obtain ⟨h1, h2, h3, h4, h5⟩ := hd
  unfold swS
  split
  · have g : ∀ i, rg (rs x.1 j (stD c w ch x.1 j)) i = if i = j then stD c w ch x.1 j else rg x.1 i := fun i => rg_rs (by omega) _ i
    refine ⟨⟨by rw [len_rs]; exact h1, canon_rs h2 _ _, ?_, fun i => ?_, fun i => ?_⟩, fun i => ?_⟩
    · rw [g]
      split
      · rename_i e; subst e; omega
      · exact h3
    · rw [g]
      split
      · have := h4 j; omega
      · exact h4 i
    · rw [g]
      split
      · rename_i e; rw [e]; exact hr.2
      · exact h5 i
    · simp only
      rw [g]
      split
      · rename_i e; rw [e]; exact hr.1
      · exact Int.le_refl _
  · exact ⟨⟨h1, h2, h3, h4, h5⟩, fun i => Int.le_refl _⟩
theorem sweep_ok (ht : tabOK c f w ch) : ∀ (k j : Nat) {x : SSt2}, j + k ≤ w.length + 1 → dueOK c f w ch x.1 → dueOK c f w ch (sweepF c w ch j k x).1 ∧ (∀ i, rg x.1 i ≤ rg (sweepF c w ch j k x).1 i)
  | 0, _, _, _, h => ⟨h, fun _ => Int.le_refl _⟩
  | k + 1, j, x, hk, h => by
    obtain ⟨a, b⟩ := sw_ok ht h (j := j) (by omega)
    obtain ⟨d, e⟩ := sweep_ok ht k (j + 1) (by omega) a
    exact ⟨d, fun i => Int.le_trans (b i) (e i)⟩
theorem sweep_false : ∀ (k j : Nat) {x : SSt2}, x.2 = false → (sweepF c w ch j k x).2 = false
  | 0, _, _, h => h
  | k + 1, j, x, h => by
    simp only [sweepF]
    refine sweep_false k (j + 1) ?_
    unfold swS
    split
    · rfl
    · exact h
theorem sweep_same : ∀ (k j : Nat) {x : SSt2}, (sweepF c w ch j k x).2 = true → (sweepF c w ch j k x).1 = x.1 ∧ x.2 = true ∧ ∀ i, j ≤ i → i < j + k → stD c w ch x.1 i = rg x.1 i
  | 0, j, x, h => ⟨rfl, h, fun i h1 h2 => by omega⟩
  | k + 1, j, x, h => by
    simp only [sweepF] at h ⊢
    by_cases hc : stD c w ch x.1 j ≠ rg x.1 j
    · have : (swS c w ch j x).2 = false := by unfold swS; rw [if_pos hc]
      rw [sweep_false k (j + 1) this] at h
      cases h
    · have e : swS c w ch j x = x := by unfold swS; rw [if_neg hc]
      rw [e] at h ⊢
      obtain ⟨a, b, d⟩ := sweep_same k (j + 1) h
      refine ⟨a, b, fun i h1 h2 => ?_⟩
      by_cases hi : i = j
      · rw [hi]
        exact Classical.not_not.1 hc
      · exact d i (by omega) (by omega)
theorem sweep_more (ht : tabOK c f w ch) : ∀ (k j : Nat) {x : SSt2}, j + k ≤ w.length + 1 → dueOK c f w ch x.1 → x.2 = true → (sweepF c w ch j k x).2 = false → ∃ i, i < w.length + 1 ∧ rg x.1 i < rg (sweepF c w ch j k x).1 i
  | 0, _, x, _, _, h1, h2 => by simp only [sweepF] at h2; rw [h1] at h2; cases h2
  | k + 1, j, x, hk, hd, h1, h2 => by
    simp only [sweepF] at h2 ⊢
    obtain ⟨a, b⟩ := sw_ok ht hd (j := j) (by omega)
    obtain ⟨a', b'⟩ := sweep_ok ht k (j + 1) (by omega) a
    by_cases hc : stD c w ch x.1 j ≠ rg x.1 j
    · refine ⟨j, by omega, ?_⟩
      have hr := st_rng ht hd (j := j) (by omega)
      have e : rg (swS c w ch j x).1 j = stD c w ch x.1 j := by
        unfold swS
        rw [if_pos hc]
        simp only
        rw [rg_rs (by have := hd.1; omega), if_pos rfl]
      have := b' j
      omega
    · have e : swS c w ch j x = x := by unfold swS; rw [if_neg hc]
      rw [e] at h2 b' a' ⊢
      exact sweep_more ht k (j + 1) (by omega) hd h1 h2
theorem fix_due (ht : tabOK c f w ch) {d : List (List D)} (hd : dueOK c f w ch d) (hf : ∀ j, j < w.length + 1 → stD c w ch d j = rg d j) : d = dueL c f w ch := by
  obtain ⟨h1, h2, h3, h4, h5⟩ := hd
  obtain ⟨d1, d2, d3, d4, d5⟩ := due_least (f := f) ht.1 ht.2
  have hs : solD c f w ch (rg d) := by
    refine ⟨h3, h4, fun j hj => ?_⟩
    have a := hf j (by omega)
    have b := hf (j + 1) (by omega)
    unfold stD at a b
    simp only at a b
    rw [if_pos (show 0 < j + 1 by omega), show j + 1 - 1 = j by omega] at b
    rw [if_pos hj, if_pos hj] at a
    refine ⟨?_, ?_, ?_⟩
    · by_cases k2 : j + 1 < w.length
      · rw [if_pos k2, if_pos k2] at b
        omega
      · rw [if_neg k2, if_neg k2] at b
        omega
    · by_cases k1 : 0 < j
      · rw [if_pos k1] at a; omega
      · rw [if_neg k1] at a; omega
    · by_cases k1 : 0 < j
      · rw [if_pos k1] at a; omega
      · rw [if_neg k1] at a; omega
  exact canon_ext h2 d2 (by rw [h1, d1]) fun j _ => Int.le_antisymm (h5 j) (d5 _ hs j)
def potD (l d : List (List D)) : Nat → Nat
  | 0 => 0
  | k + 1 => potD l d k + (rg l k - rg d k).toNat
theorem pot_le {l d d' : List (List D)} (h : ∀ j, rg d j ≤ rg d' j) : ∀ k, potD l d' k ≤ potD l d k
  | 0 => Nat.le_refl _
  | k + 1 => by
    have := pot_le (l := l) h k
    have := h k
    simp only [potD]
    omega
theorem pot_lt {l d d' : List (List D)} (h : ∀ j, rg d j ≤ rg d' j) (h2 : ∀ j, rg d' j ≤ rg l j) {i : Nat} (hi : rg d i < rg d' i) : ∀ k, i < k → potD l d' k < potD l d k
  | 0, hk => by omega
  | k + 1, hk => by
    have a := pot_le (l := l) h k
    have b := h k
    have e := h2 k
    simp only [potD]
    by_cases hik : i = k
    · subst hik; omega
    · have := pot_lt h h2 hi k (by omega)
      omega
theorem pot_max {l d : List (List D)} {m : Nat} (h : ∀ j, rg l j ≤ m) (h0 : ∀ j, 0 ≤ rg d j) : ∀ k, potD l d k ≤ k * m
  | 0 => Nat.zero_le _
  | k + 1 => by
    have a := pot_max h h0 k
    have b := h k
    have e := h0 k
    simp only [potD, Nat.add_mul, Nat.one_mul]
    omega
theorem lim_iff : limB c w ch = true ↔ ∀ j, j < w.length → 0 ≤ rg ch j → ix (w.getD j []) 1 + busyF c (w.getD j []) ≤ ix (winF w ch j) 2 := by
  unfold limB limJ
  rw [allFrom_iff]
  constructor
  · intro h j hj
    exact of_decide_eq_true (h j (Nat.zero_le _) (by omega))
  · intro h j _ hj
    exact decide_eq_true (h j (by omega))
theorem timed_mk {l : List (List D)} {n : Int} (hl : (l.length : Int) = n) (h : ∀ j, j < l.length → 0 ≤ rg l j ∧ rg l j ≤ 1000000000) : timedB l n = true := by
  unfold timedB
  rw [Bool.and_eq_true, decide_eq_true_eq, allFrom_iff]
  exact ⟨hl, fun j _ hj => by unfold timeL; exact decide_eq_true (h j (by omega))⟩
theorem fits_due (hp : planB c f w = true) (hc : chOK w ch) : fitsR c f w (dueL c f w ch) (clR c f w ch) (opR c f w ch) ch = duesOk c f w ch := by
  obtain ⟨d1, d2, ⟨s1, s2, s3⟩, d4, d5⟩ := due_least (f := f) hp hc
  obtain ⟨p0, p1, p2, p3⟩ := plan_of hp
  have lc : (clR c f w ch).length = w.length := len_rowF _ _ _
  have lo : (opR c f w ch).length = w.length := len_rowF _ _ _
  have gc : ∀ j, j < w.length → rg (clR c f w ch) j = rg (dueL c f w ch) j - ix (w.getD j []) 1 := fun j hj => by
    unfold clR
    rw [rg_rowF hj, Nat.zero_add]
    rfl
  have go : ∀ j, j < w.length → rg (opR c f w ch) j = rg (dueL c f w ch) j + busyF c (w.getD j []) := fun j hj => by
    unfold opR
    rw [rg_rowF hj, Nat.zero_add]
    rfl
  have hfit : fitH f (dueL c f w ch) (clR c f w ch) (opR c f w ch) ch w.length = true := by
    unfold fitH
    rw [timed_mk (by rw [d1]; rfl) (fun j _ => ⟨s2 j, by have := d4 j; omega⟩), timed_mk (by rw [lc]) (fun j hj => by
      rw [lc] at hj
      rw [gc j hj]
      have a := s3 j hj
      have b := wayC_of (way_of hp hj).1
      have e := from_of hp hc hj
      have g := d4 j
      omega), timed_mk (by rw [lo]) (fun j hj => by
      rw [lo] at hj
      rw [go j hj]
      have a := s2 j
      have b := busy_of hp hj
      have g := d4 j
      omega)]
    simp only [Bool.true_and, decide_eq_true_eq]
    exact ⟨hc.1, s1⟩
  have hnext : allFrom (nextR c w (dueL c f w ch)) 0 (w.length + 1) = true := by
    rw [allFrom_iff]
    intro j _ hj
    cases j with
    | zero => rfl
    | succ j =>
      have hjl : j < w.length := by omega
      obtain ⟨a, b, -⟩ := s3 j hjl
      show nextB c w (dueL c f w ch) j = true
      unfold nextB
      unfold leW at a
      unfold moW at b
      by_cases hg : j + 1 < w.length ∧ bx (w.getD (j + 1) []) 4 = true
      · rw [if_pos hg] at a b ⊢
        exact decide_eq_true (by omega)
      · rw [if_neg hg] at a b ⊢
        exact decide_eq_true (by omega)
  have hrest : allFrom (restB c w (dueL c f w ch) (clR c f w ch) (opR c f w ch) ch) 0 w.length = duesOk c f w ch := by
    rw [Bool.eq_iff_iff, allFrom_iff]
    unfold duesOk
    rw [Bool.and_eq_true, decide_eq_true_eq, (push_ends hp hc).1, lim_iff]
    have one : ∀ j, j < w.length → (restB c w (dueL c f w ch) (clR c f w ch) (opR c f w ch) ch j = true ↔ (0 ≤ rg ch j → ix (w.getD j []) 1 + busyF c (w.getD j []) ≤ ix (winF w ch j) 2) ∧ (0 ≤ rg ch j → rg (dueL c f w ch) j + busyF c (w.getD j []) ≤ ix (winF w ch j) 1)) := fun j hj => by
      obtain ⟨-, -, a⟩ := s3 j hj
      have hcj := hc.2 j hj
      unfold restB choB
      rw [Bool.and_eq_true, decide_eq_true_eq, gc j hj, go j hj]
      by_cases hz : (lx (w.getD j []) 7).length = 0
      · rw [if_pos hz] at hcj ⊢
        rw [decide_eq_true_eq]
        exact ⟨fun _ => ⟨fun h => by omega, fun h => by omega⟩, fun _ => ⟨by omega, hcj⟩⟩
      · rw [if_neg hz] at hcj ⊢
        rw [decide_eq_true_eq]
        unfold fromF at a
        rw [if_pos hcj.1] at a
        have e : (lx (w.getD j []) 7).getD (rg ch j).toNat [] = winF w ch j := rfl
        rw [e]
        constructor
        · intro h
          exact ⟨fun _ => by omega, fun _ => by omega⟩
        · intro h
          have h1 := h.1 hcj.1
          have h2 := h.2 hcj.1
          omega
    constructor
    · intro h
      exact ⟨fun j hj => ((one j hj).1 (h j (Nat.zero_le _) (by omega))).1, fun j hj => ((one j hj).1 (h j (Nat.zero_le _) (by omega))).2⟩
    · intro h j _ hj
      exact (one j (by omega)).2 ⟨h.1 j (by omega), h.2 j (by omega)⟩
  unfold fitsR
  rw [hfit, hnext, hrest]
  rfl
end
end Go.Proofs.Ytipbcpobnciccaa
namespace Go.Proofs.Ytipbcpobnciccaa
open Go.Lite
noncomputable def sp72 : SpL := [(60, mkF s60 G60), (27, mkF s27 G27)]
noncomputable def lp72 : LpL := [(5, mkL l72_5 G72_5), (8, mkL l72_8 G72_8), (32, mkL l72_32 G72_32)]
noncomputable def sw72 : SwL := []
noncomputable def tab72 : Tab := mkTab sp72 lp72 sw72
noncomputable def sp42 : SpL := [(72, mkF s72 G72)]
noncomputable def lp42 : LpL := [(4, mkL l42_4 G42_4), (9, mkL l42_9 G42_9), (15, mkL l42_15 G42_15)]
noncomputable def sw42 : SwL := []
noncomputable def tab42 : Tab := mkTab sp42 lp42 sw42
noncomputable def sp56 : SpL := []
noncomputable def lp56 : LpL := []
noncomputable def sw56 : SwL := []
noncomputable def tab56 : Tab := mkTab sp56 lp56 sw56
noncomputable def sp77 : SpL := []
noncomputable def lp77 (q : Nat) : LpL := [(2, mkLY 1 l77_2 (G77_2 q)), (7, mkLY 1 l77_7 (G77_7 q)), (9, mkLY 1 l77_9 (G77_9 q))]
noncomputable def sw77 : SwL := []
noncomputable def tab77 (q : Nat) : Tab := mkTabY sp77 (lp77 q) sw77 y77 q
end Go.Proofs.Ytipbcpobnciccaa
namespace Go.Proofs.Ytipbcpobnciccaa
open Go.Lite
set_option linter.unusedVariables false
set_option maxRecDepth 100000
theorem t42 (a b c : D) : fnT C tab42 42 s42 [a, b, c] =
  T.need (decide ((0 : Int) ≤ (c.L.length : Int) ∧ (c.L.length : Int) = (c.L.length : Int) ∧ (c.L.length : Int) ≤ (2 : Int) ^ 40 ∧ (↑Try.prog.types[3].bytes : Int) * (c.L.length : Int) ≤ (2 : Int) ^ 46)) (T.need (yes (planB a.I b.I c.L = true ∧ (c.L.length : Int) = (c.L.length : Int) ∧ ((0 : Int) ≤ (0 : Int) ∧ (0 : Int) ≤ (c.L.length : Int)) ∧ (↑(List.length (List.replicate (Int.toNat (c.L.length : Int)) [D.i 0])) : Int) = (c.L.length : Int) ∧ List.replicate (Int.toNat (c.L.length : Int)) [D.i 0] = rowF (zeroC c.L) 0 (Int.toNat (0 : Int)) ++ zerR (c.L.length - Int.toNat (0 : Int)))) (T.need (yes (planB a.I b.I c.L = true ∧ (c.L.length : Int) = (c.L.length : Int) ∧ (↑(Int.toNat (↑(Int.toNat (↑(List.length (List.replicate (Int.toNat (c.L.length : Int)) [D.i 0])) : Int)) : Int)) : Int) = (c.L.length : Int) ∧ carOK c.L (firstC c.L) ∧ (0 : Int) ≤ (0 : Int) ∧ (0 : Int) ≤ (20000 : Int))) (T.ite (decide ((makeF a.I b.I c.L (Int.toNat ((20000 : Int) - (0 : Int))) (firstC c.L)).fst = (0 : Int))) (T.leaf [D.i 0, D.i (↑(Int.toNat (↑(c.L.length + 1) : Int)) : Int), D.i (↑(Int.toNat (c.L.length : Int)) : Int), D.i (↑(Int.toNat (c.L.length : Int)) : Int), D.i (↑(Int.toNat (c.L.length : Int)) : Int), D.i 0, D.l (dueL a.I b.I c.L (makeF a.I b.I c.L (Int.toNat ((20000 : Int) - (0 : Int))) (firstC c.L)).snd), D.l (clR a.I b.I c.L (makeF a.I b.I c.L (Int.toNat ((20000 : Int) - (0 : Int))) (firstC c.L)).snd), D.l (opR a.I b.I c.L (makeF a.I b.I c.L (Int.toNat ((20000 : Int) - (0 : Int))) (firstC c.L)).snd), D.l (makeF a.I b.I c.L (Int.toNat ((20000 : Int) - (0 : Int))) (firstC c.L)).snd]) (T.ite (decide ((makeF a.I b.I c.L (Int.toNat ((20000 : Int) - (0 : Int))) (firstC c.L)).fst = (5 : Int))) (T.leaf [D.i 1, D.i 5]) (T.leaf [D.i 1, D.i 9]))))) := by kernel_rfl
theorem t42_4 (a b c d e f g : D) : roundT C tab42 42 (loopOf C.P 42 4) l42_4 [a, b, c, d, e, f, g] =
  T.ite (decide (c.I < a.I)) (T.need (decide ((0 : Int) ≤ c.I ∧ c.I < (f.L.length : Int))) (T.ite ((↑(List.length (D.L (List.getD (List.getD f.L c.I.toNat []) (0 + 1 + 1 + 1 + 1 + 1 + 1 + 1) default))) : Int) == (0 : Int)) (T.need (decide ((0 : Int) ≤ c.I ∧ c.I < (b.I.toNat : Int))) (T.need (decide (c.I.toNat < g.L.length)) (T.leaf (Rd.again [D.i a.I, D.i (b.I.toNat : Int), D.i (IntKind.wrap IntKind.i64 (c.I + (1 : Int))), D.i d.I, D.i e.I, D.l f.L, D.l (List.set g.L c.I.toNat (updC (List.getD g.L c.I.toNat []) [D.i (-1 : Int)] 0 0 (List.length [K.int IntKind.i64])))])))) (T.leaf (Rd.again [D.i a.I, D.i (b.I.toNat : Int), D.i (IntKind.wrap IntKind.i64 (c.I + (1 : Int))), D.i d.I, D.i e.I, D.l f.L, D.l g.L])))) (T.leaf (Rd.out (Ex.exit 0) [D.i a.I, D.i (b.I.toNat : Int), D.i d.I, D.i e.I, D.l f.L, D.l g.L])) := by kernel_rfl
theorem t42_9 (a b c d e f g : D) : roundT C tab42 42 (loopOf C.P 42 9) l42_9 [a, b, c, d, e, f, g] =
  T.ite (decide (c.I < (20000 : Int))) (T.need (decide ((0 : Int) ≤ IntKind.wrap IntKind.i64 (a.I + (1 : Int)) ∧ IntKind.wrap IntKind.i64 (a.I + (1 : Int)) = IntKind.wrap IntKind.i64 (a.I + (1 : Int)) ∧ IntKind.wrap IntKind.i64 (a.I + (1 : Int)) ≤ (2 : Int) ^ 40 ∧ (↑Try.prog.types[3].bytes : Int) * IntKind.wrap IntKind.i64 (a.I + (1 : Int)) ≤ (2 : Int) ^ 46)) (T.need (decide (b.I.toNat ≤ g.L.length)) (T.need (decide (List.length (List.replicate (Int.toNat (IntKind.wrap IntKind.i64 (a.I + (1 : Int)))) [D.i 0]) ≤ List.length (List.replicate (Int.toNat (IntKind.wrap IntKind.i64 (a.I + (1 : Int)))) [D.i 0]))) (T.need (yes (tabOK d.I e.I f.L (List.take b.I.toNat g.L) ∧ List.take (List.length (List.replicate (Int.toNat (IntKind.wrap IntKind.i64 (a.I + (1 : Int)))) [D.i 0])) (List.replicate (Int.toNat (IntKind.wrap IntKind.i64 (a.I + (1 : Int)))) [D.i 0]) = zerR (f.L.length + 1))) (T.ite (duesOk d.I e.I f.L (List.take b.I.toNat g.L)) (T.leaf (Rd.out Ex.ret [D.i 0, D.i 0, D.i (↑(Int.toNat (↑(f.L.length + 1) : Int)) : Int), D.i (↑(Int.toNat (f.L.length : Int)) : Int), D.i (↑(Int.toNat (f.L.length : Int)) : Int), D.i (↑(Int.toNat (↑(List.length (List.take b.I.toNat g.L)) : Int)) : Int), D.l (dueL d.I e.I f.L (List.take b.I.toNat g.L)), D.l (clR d.I e.I f.L (List.take b.I.toNat g.L)), D.l (opR d.I e.I f.L (List.take b.I.toNat g.L)), D.l (List.take b.I.toNat g.L)])) (T.need (yes (planB d.I e.I f.L = true ∧ (b.I.toNat : Int) = (f.L.length : Int) ∧ carOK f.L g.L ∧ (-1 : Int) ≤ IntKind.wrap IntKind.i64 (a.I - (1 : Int)) ∧ IntKind.wrap IntKind.i64 (a.I - (1 : Int)) < (f.L.length : Int))) (T.ite (decide ((carryF f.L (Int.toNat (IntKind.wrap IntKind.i64 (a.I - (1 : Int)) + (1 : Int))) g.L).snd < (0 : Int))) (T.leaf (Rd.out Ex.ret [D.i 1, D.i 5])) (T.need (decide ((0 : Int) ≤ (carryF f.L (Int.toNat (IntKind.wrap IntKind.i64 (a.I - (1 : Int)) + (1 : Int))) g.L).snd ∧ (carryF f.L (Int.toNat (IntKind.wrap IntKind.i64 (a.I - (1 : Int)) + (1 : Int))) g.L).snd < (↑(Int.toNat (↑(Int.toNat (b.I.toNat : Int)) : Int)) : Int))) (T.need (decide (Int.toNat (carryF f.L (Int.toNat (IntKind.wrap IntKind.i64 (a.I - (1 : Int)) + (1 : Int))) g.L).snd < List.length (carryF f.L (Int.toNat (IntKind.wrap IntKind.i64 (a.I - (1 : Int)) + (1 : Int))) g.L).fst)) (T.need (decide ((0 : Int) ≤ (carryF f.L (Int.toNat (IntKind.wrap IntKind.i64 (a.I - (1 : Int)) + (1 : Int))) g.L).snd ∧ (carryF f.L (Int.toNat (IntKind.wrap IntKind.i64 (a.I - (1 : Int)) + (1 : Int))) g.L).snd < (↑(Int.toNat (↑(Int.toNat (b.I.toNat : Int)) : Int)) : Int))) (T.need (decide (Int.toNat (carryF f.L (Int.toNat (IntKind.wrap IntKind.i64 (a.I - (1 : Int)) + (1 : Int))) g.L).snd < List.length (carryF f.L (Int.toNat (IntKind.wrap IntKind.i64 (a.I - (1 : Int)) + (1 : Int))) g.L).fst)) (T.leaf (Rd.again [D.i a.I, D.i (↑(Int.toNat (↑(Int.toNat (b.I.toNat : Int)) : Int)) : Int), D.i (IntKind.wrap IntKind.i64 (c.I + (1 : Int))), D.i d.I, D.i e.I, D.l f.L, D.l (List.set (carryF f.L (Int.toNat (IntKind.wrap IntKind.i64 (a.I - (1 : Int)) + (1 : Int))) g.L).fst (Int.toNat (carryF f.L (Int.toNat (IntKind.wrap IntKind.i64 (a.I - (1 : Int)) + (1 : Int))) g.L).snd) (updC (List.getD (carryF f.L (Int.toNat (IntKind.wrap IntKind.i64 (a.I - (1 : Int)) + (1 : Int))) g.L).fst (Int.toNat (carryF f.L (Int.toNat (IntKind.wrap IntKind.i64 (a.I - (1 : Int)) + (1 : Int))) g.L).snd) []) [D.i (IntKind.wrap IntKind.i64 (D.I (List.getD (List.getD (carryF f.L (Int.toNat (IntKind.wrap IntKind.i64 (a.I - (1 : Int)) + (1 : Int))) g.L).fst (Int.toNat (carryF f.L (Int.toNat (IntKind.wrap IntKind.i64 (a.I - (1 : Int)) + (1 : Int))) g.L).snd) []) 0 default) + (1 : Int)))] 0 0 (List.length [K.int IntKind.i64])))]))))))))))))) (T.leaf (Rd.out (Ex.exit 2) [])) := by kernel_rfl
theorem t42_15 (a b c d e f g h : D) : roundT C tab42 42 (loopOf C.P 42 15) l42_15 [a, b, c, d, e, f, g, h] =
  T.ite (decide (d.I ≥ (0 : Int))) (T.need (decide ((0 : Int) ≤ d.I ∧ d.I < (b.I.toNat : Int))) (T.need (decide (d.I.toNat < h.L.length)) (T.need (decide ((0 : Int) ≤ d.I ∧ d.I < (g.L.length : Int))) (T.ite (decide (IntKind.wrap IntKind.i64 (D.I (List.getD (List.getD h.L d.I.toNat []) 0 default) + (1 : Int)) ≥ (↑(List.length (D.L (List.getD (List.getD g.L d.I.toNat []) (0 + 1 + 1 + 1 + 1 + 1 + 1 + 1) default))) : Int))) (T.need (decide ((0 : Int) ≤ d.I ∧ d.I < (g.L.length : Int))) (T.need (decide ((0 : Int) ≤ d.I ∧ d.I < (b.I.toNat : Int))) (T.need (decide (d.I.toNat < h.L.length)) (T.leaf (Rd.again [D.i a.I, D.i (b.I.toNat : Int), D.i c.I, D.i (IntKind.wrap IntKind.i64 (d.I - (1 : Int))), D.i e.I, D.i f.I, D.l g.L, D.l (List.set h.L d.I.toNat (updC (List.getD h.L d.I.toNat []) [D.i (minI (0 : Int) (IntKind.wrap IntKind.i64 ((↑(List.length (D.L (List.getD (List.getD g.L d.I.toNat []) (0 + 1 + 1 + 1 + 1 + 1 + 1 + 1) default))) : Int) - (1 : Int))))] 0 0 (List.length [K.int IntKind.i64])))]))))) (T.leaf (Rd.out (Ex.exit 4) [D.i a.I, D.i (b.I.toNat : Int), D.i c.I, D.i d.I, D.i e.I, D.i f.I, D.l g.L, D.l h.L])))))) (T.leaf (Rd.out (Ex.exit 4) [D.i a.I, D.i (b.I.toNat : Int), D.i c.I, D.i d.I, D.i e.I, D.i f.I, D.l g.L, D.l h.L])) := by kernel_rfl
theorem t56 (a b c : D) : fnTW C tab56 56 s56 [a, b, c] =
  T.leaf [D.i a.I, D.i b.I, D.l c.L] := by kernel_rfl
theorem t77 (q : Nat) (a b c : D) : fnTY C (tab77 q) 77 s77 [a, b, c] =
  T.need (decide ((0 : Int) ≤ (c.L.length : Int) ∧ (c.L.length : Int) = (c.L.length : Int) ∧ (c.L.length : Int) ≤ (2 : Int) ^ 40 ∧ (↑Try.prog.types[3].bytes : Int) * (c.L.length : Int) ≤ (2 : Int) ^ 46)) (T.need (yes (planB a.I b.I c.L = true ∧ c.L = c.L ∧ (c.L.length : Int) = (c.L.length : Int) ∧ (↑(List.length (List.replicate (Int.toNat (c.L.length : Int)) [D.i 0])) : Int) = (c.L.length : Int) ∧ ((0 : Int) ≤ (0 : Int) ∧ (0 : Int) ≤ (c.L.length : Int)) ∧ List.replicate (Int.toNat (c.L.length : Int)) [D.i 0] = rowF (zeroC c.L) 0 (Int.toNat (0 : Int)) ++ zerR (c.L.length - Int.toNat (0 : Int)))) (T.need (yes (planB a.I b.I c.L = true ∧ fewC c.L ∧ (↑(Int.toNat (↑(Int.toNat (↑(List.length (List.replicate (Int.toNat (c.L.length : Int)) [D.i 0])) : Int)) : Int)) : Int) = (c.L.length : Int) ∧ carOK c.L (firstC c.L) ∧ List.length ([] : List (List D)) ≤ q)) (T.leaf ([] ++ List.take (q + 1 - List.length ([] : List (List D))) (allC c.L (restC c.L (firstC c.L)) (firstC c.L)))))) := by kernel_rfl
theorem t77_2 (q : Nat) (a b c d e f g h i : D) : roundTY C (tab77 q) 77 (loopOf C.P 77 2) 1 l77_2 [a, b, c, d, e, f, g, h, i] =
  T.ite (decide (e.I < d.I)) (T.need (decide ((0 : Int) ≤ e.I ∧ e.I < (c.L.length : Int))) (T.ite ((↑(List.length (D.L (List.getD (List.getD c.L e.I.toNat []) (0 + 1 + 1 + 1 + 1 + 1 + 1 + 1) default))) : Int) == (0 : Int)) (T.need (decide ((0 : Int) ≤ e.I ∧ e.I < (b.I.toNat : Int))) (T.need (decide (e.I.toNat < i.L.length)) (T.leaf (Rd.again [D.l a.L, D.i (b.I.toNat : Int), D.l c.L, D.i d.I, D.i (IntKind.wrap IntKind.i64 (e.I + (1 : Int))), D.i f.I, D.i g.I, D.l h.L, D.l (List.set i.L e.I.toNat (updC (List.getD i.L e.I.toNat []) [D.i (-1 : Int)] 0 0 (List.length [K.int IntKind.i64])))])))) (T.leaf (Rd.again [D.l a.L, D.i (b.I.toNat : Int), D.l c.L, D.i d.I, D.i (IntKind.wrap IntKind.i64 (e.I + (1 : Int))), D.i f.I, D.i g.I, D.l h.L, D.l i.L])))) (T.leaf (Rd.out (Ex.exit 0) [D.l a.L, D.i (b.I.toNat : Int), D.i f.I, D.i g.I, D.l h.L, D.l i.L])) := by kernel_rfl
theorem t77_7 (q : Nat) (a b c d e f : D) : roundTY C (tab77 q) 77 (loopOf C.P 77 7) 1 l77_7 [a, b, c, d, e, f] =
  T.ite (!!a.L.length == (tab77 q).q) (T.leaf (Rd.out Ex.ret [D.l (a.L ++ [[D.i (b.I.toNat : Int)] ++ [] ++ ([D.l f.L] ++ [])]), D.i c.I, D.i d.I, D.l e.L])) (T.need (yes (planB c.I d.I e.L = true ∧ (b.I.toNat : Int) = (e.L.length : Int) ∧ carOK e.L f.L ∧ (-1 : Int) ≤ IntKind.wrap IntKind.i64 ((b.I.toNat : Int) - (1 : Int)) ∧ IntKind.wrap IntKind.i64 ((b.I.toNat : Int) - (1 : Int)) < (e.L.length : Int))) (T.ite (decide ((carryF e.L (Int.toNat (IntKind.wrap IntKind.i64 ((b.I.toNat : Int) - (1 : Int)) + (1 : Int))) f.L).snd < (0 : Int))) (T.leaf (Rd.out Ex.ret [D.l (a.L ++ [[D.i (b.I.toNat : Int)] ++ [] ++ ([D.l f.L] ++ [])]), D.i c.I, D.i d.I, D.l e.L])) (T.need (decide ((0 : Int) ≤ (carryF e.L (Int.toNat (IntKind.wrap IntKind.i64 ((b.I.toNat : Int) - (1 : Int)) + (1 : Int))) f.L).snd ∧ (carryF e.L (Int.toNat (IntKind.wrap IntKind.i64 ((b.I.toNat : Int) - (1 : Int)) + (1 : Int))) f.L).snd < (↑(Int.toNat (↑(Int.toNat (b.I.toNat : Int)) : Int)) : Int))) (T.need (decide (Int.toNat (carryF e.L (Int.toNat (IntKind.wrap IntKind.i64 ((b.I.toNat : Int) - (1 : Int)) + (1 : Int))) f.L).snd < List.length (carryF e.L (Int.toNat (IntKind.wrap IntKind.i64 ((b.I.toNat : Int) - (1 : Int)) + (1 : Int))) f.L).fst)) (T.need (decide ((0 : Int) ≤ (carryF e.L (Int.toNat (IntKind.wrap IntKind.i64 ((b.I.toNat : Int) - (1 : Int)) + (1 : Int))) f.L).snd ∧ (carryF e.L (Int.toNat (IntKind.wrap IntKind.i64 ((b.I.toNat : Int) - (1 : Int)) + (1 : Int))) f.L).snd < (↑(Int.toNat (↑(Int.toNat (b.I.toNat : Int)) : Int)) : Int))) (T.need (decide (Int.toNat (carryF e.L (Int.toNat (IntKind.wrap IntKind.i64 ((b.I.toNat : Int) - (1 : Int)) + (1 : Int))) f.L).snd < List.length (carryF e.L (Int.toNat (IntKind.wrap IntKind.i64 ((b.I.toNat : Int) - (1 : Int)) + (1 : Int))) f.L).fst)) (T.leaf (Rd.again [D.l (a.L ++ [[D.i (b.I.toNat : Int)] ++ [] ++ ([D.l f.L] ++ [])]), D.i (↑(Int.toNat (↑(Int.toNat (b.I.toNat : Int)) : Int)) : Int), D.i c.I, D.i d.I, D.l e.L, D.l (List.set (carryF e.L (Int.toNat (IntKind.wrap IntKind.i64 ((b.I.toNat : Int) - (1 : Int)) + (1 : Int))) f.L).fst (Int.toNat (carryF e.L (Int.toNat (IntKind.wrap IntKind.i64 ((b.I.toNat : Int) - (1 : Int)) + (1 : Int))) f.L).snd) (updC (List.getD (carryF e.L (Int.toNat (IntKind.wrap IntKind.i64 ((b.I.toNat : Int) - (1 : Int)) + (1 : Int))) f.L).fst (Int.toNat (carryF e.L (Int.toNat (IntKind.wrap IntKind.i64 ((b.I.toNat : Int) - (1 : Int)) + (1 : Int))) f.L).snd) []) [D.i (IntKind.wrap IntKind.i64 (D.I (List.getD (List.getD (carryF e.L (Int.toNat (IntKind.wrap IntKind.i64 ((b.I.toNat : Int) - (1 : Int)) + (1 : Int))) f.L).fst (Int.toNat (carryF e.L (Int.toNat (IntKind.wrap IntKind.i64 ((b.I.toNat : Int) - (1 : Int)) + (1 : Int))) f.L).snd) []) 0 default) + (1 : Int)))] 0 0 (List.length [K.int IntKind.i64])))])))))))) := by kernel_rfl
theorem t77_9 (q : Nat) (a b c d e f g : D) : roundTY C (tab77 q) 77 (loopOf C.P 77 9) 1 l77_9 [a, b, c, d, e, f, g] =
  T.ite (decide (c.I ≥ (0 : Int))) (T.need (decide ((0 : Int) ≤ c.I ∧ c.I < (b.I.toNat : Int))) (T.need (decide (c.I.toNat < g.L.length)) (T.need (decide ((0 : Int) ≤ c.I ∧ c.I < (f.L.length : Int))) (T.ite (decide (D.I (List.getD (List.getD g.L c.I.toNat []) 0 default) ≥ IntKind.wrap IntKind.i64 ((↑(List.length (D.L (List.getD (List.getD f.L c.I.toNat []) (0 + 1 + 1 + 1 + 1 + 1 + 1 + 1) default))) : Int) - (1 : Int)))) (T.need (decide ((0 : Int) ≤ c.I ∧ c.I < (b.I.toNat : Int))) (T.need (decide (c.I.toNat < g.L.length)) (T.ite (decide (D.I (List.getD (List.getD g.L c.I.toNat []) 0 default) > (0 : Int))) (T.need (decide ((0 : Int) ≤ c.I ∧ c.I < (b.I.toNat : Int))) (T.need (decide (c.I.toNat < g.L.length)) (T.leaf (Rd.again [D.l a.L, D.i (b.I.toNat : Int), D.i (IntKind.wrap IntKind.i64 (c.I - (1 : Int))), D.i d.I, D.i e.I, D.l f.L, D.l (List.set g.L c.I.toNat (updC (List.getD g.L c.I.toNat []) [D.i 0] 0 0 (List.length [K.int IntKind.i64])))])))) (T.leaf (Rd.again [D.l a.L, D.i (b.I.toNat : Int), D.i (IntKind.wrap IntKind.i64 (c.I - (1 : Int))), D.i d.I, D.i e.I, D.l f.L, D.l g.L]))))) (T.leaf (Rd.out (Ex.exit 4) [D.l a.L, D.i (b.I.toNat : Int), D.i c.I, D.i d.I, D.i e.I, D.l f.L, D.l g.L])))))) (T.leaf (Rd.out (Ex.exit 4) [D.l a.L, D.i (b.I.toNat : Int), D.i c.I, D.i d.I, D.i e.I, D.l f.L, D.l g.L])) := by kernel_rfl
end Go.Proofs.Ytipbcpobnciccaa
namespace Go.Proofs.Ytipbcpobnciccaa
open Go.Lite
set_option maxRecDepth 100000
theorem zer_len (n : Nat) : (zerR n).length = n := List.length_replicate ..
theorem fill_step {w : List (List D)} {k : Nat} (hk : k < w.length) (v : Int) (hv : v = zeroC w k) : rs (rowF (zeroC w) 0 k ++ zerR (w.length - k)) k v = rowF (zeroC w) 0 (k + 1) ++ zerR (w.length - (k + 1)) := by
  rw [show w.length - k = (w.length - (k + 1)) + 1 by omega]
  exact rowF_rep _ _ _ _ hv
theorem fill_same {w : List (List D)} {k : Nat} (hk : k < w.length) (hv : zeroC w k = 0) : rowF (zeroC w) 0 k ++ zerR (w.length - k) = rowF (zeroC w) 0 (k + 1) ++ zerR (w.length - (k + 1)) := by
  have h := rowF_snoc (zeroC w) k 0
  rw [Nat.zero_add, hv] at h
  rw [show w.length - k = (w.length - (k + 1)) + 1 by omega, ← h, rep_cons, List.append_assoc]
  rfl
theorem zero_len (w : List (List D)) (k : Nat) : zeroC w k = if (lx (w.getD k []) 7).length = 0 then -1 else 0 := by
  unfold zeroC hoursN
  by_cases h : (lx (w.getD k []) 7).length = 0
  · rw [if_pos h, if_pos (by omega)]
  · rw [if_neg h, if_neg (by omega)]
theorem fill_end {w : List (List D)} {k : Nat} (h : w.length ≤ k) (h2 : k ≤ w.length) : rowF (zeroC w) 0 k ++ zerR (w.length - k) = firstC w := by
  have : k = w.length := by omega
  subst this
  rw [Nat.sub_self]
  exact List.append_nil _
theorem ok42_4 {n : Nat} (h72 : FnOK C n 72 (mkF s72 G72)) : LoopSim C n 42 (loopOf C.P 42 4) (mkL l42_4 G42_4) := by
  refine loop_ofK hC (sp := sp42) (lp := lp42) (sw := sw42) ⟨h72, trivial⟩ trivial 0 [] (by kernel_rfl) rfl (fun k hk => by cases hk) (by kernel_rfl) (fun ds => ((ds.getD 0 default).I - (ds.getD 2 default).I).toNat) fun ds rr h => ?_
  unfold G42_4 at h
  split at h
  · rename_i r m i c f w ch
    obtain ⟨hp, h⟩ := need_some h
    rw [yes_iff] at hp
    obtain ⟨hp, h1, ⟨h2, h3⟩, h4, h5⟩ := hp
    have hb := big_eq
    obtain ⟨p0, p1, -⟩ := plan_of hp
    refine ⟨by rw [fuelC]; simp; omega, ?_⟩
    rw [show roundTK C (mkTab sp42 lp42 sw42) 42 (loopOf C.P 42 4) 0 l42_4 [r, m, i, c, f, w, ch] = _ from t42_4 r m i c f w ch]
    obtain ⟨k, hk⟩ : ∃ k : Nat, i.I = k := ⟨i.I.toNat, by omega⟩
    simp only [hk, h1, h4, h5, Int.toNat_natCast, Nat.reduceAdd, lx_def, upd1, rs_def, lenN] at h h2 h3 ⊢
    refine rd_if (fun hlt => ?_) fun hge => rd_out ?_
    · have hkl : k < w.L.length := by omega
      have hcl : (rowF (zeroC w.L) 0 k ++ zerR (w.L.length - k)).length = w.L.length := by rw [List.length_append, len_rowF, zer_len]; omega
      rw [wrap_succ (by omega)]
      have hmu : ((w.L.length : Int) - ((k + 1 : Nat) : Int)).toNat < (r.I - i.I).toNat := by omega
      have hz := zero_len w.L k
      have go : ∀ cc, cc = rowF (zeroC w.L) 0 (k + 1) ++ zerR (w.L.length - (k + 1)) → (G42_4 [.i (w.L.length : Int), .i (w.L.length : Int), .i ((k + 1 : Nat) : Int), .i c.I, .i f.I, .l w.L, .l cc]).run = some rr := fun cc hcc => by
        refine (need_yes ⟨hp, rfl, ⟨by simp only [I_i]; omega, by simp only [I_i]; omega⟩, rfl, by simp only [I_i, L_l, Int.toNat_natCast]; exact hcc⟩).trans ?_
        exact h
      refine rd_dec (by omega) (rd_ite (fun hc => rd_dec (by omega) (rd_dec (by omega) (rd_again (go _ ?_) hmu))) fun hc => rd_again (go _ ?_) hmu)
      · have hc0 : (lx (w.L.getD k []) 7).length = 0 := by have := eq_of_beq hc; omega
        rw [if_pos hc0] at hz
        exact fill_step hkl _ hz.symm
      · have hc0 : ¬ (lx (w.L.getD k []) 7).length = 0 := fun e => by rw [e] at hc; cases hc
        rw [if_neg hc0] at hz
        exact fill_same hkl hz
    · rw [← h, fill_end (by omega) (by omega)]
      rfl
  · cases h
theorem ok77_2 (q n : Nat) : LoopSimY C n 1 77 (loopOf C.P 77 2) (some y77) q (mkLY 1 l77_2 (G77_2 q)) := by
  refine loop_ofY hC (sp := sp77) (lp := lp77 q) (sw := sw77) (Y := y77) (yOK_mk _ _ _) trivial trivial 1 [] (by kernel_rfl) rfl (by kernel_rfl) (fun k hk => by cases hk) (by kernel_rfl) (fun ds => ((ds.getD 3 default).I - (ds.getD 4 default).I).toNat) fun ds rr h => ?_
  unfold G77_2 at h
  split at h
  · rename_i g m w' r i c f w ch
    obtain ⟨hp, h⟩ := need_some h
    rw [yes_iff] at hp
    obtain ⟨hp, h0, h1, h4, ⟨h2, h3⟩, h5⟩ := hp
    have hb := big_eq
    obtain ⟨p0, p1, -⟩ := plan_of hp
    refine ⟨by rw [fuelC]; simp; omega, ?_⟩
    rw [show roundTY C (mkTabY sp77 (lp77 q) sw77 y77 q) 77 (loopOf C.P 77 2) 1 l77_2 [g, m, w', r, i, c, f, w, ch] = _ from t77_2 q g m w' r i c f w ch]
    obtain ⟨k, hk⟩ : ∃ k : Nat, i.I = k := ⟨i.I.toNat, by omega⟩
    simp only [hk, h0, h1, h4, h5, Int.toNat_natCast, Nat.reduceAdd, lx_def, upd1, rs_def, lenN] at h h2 h3 ⊢
    refine rd_if (fun hlt => ?_) fun hge => rd_out ?_
    · have hkl : k < w.L.length := by omega
      have hcl : (rowF (zeroC w.L) 0 k ++ zerR (w.L.length - k)).length = w.L.length := by rw [List.length_append, len_rowF, zer_len]; omega
      rw [wrap_succ (by omega)]
      have hmu : ((w.L.length : Int) - ((k + 1 : Nat) : Int)).toNat < (r.I - i.I).toNat := by omega
      have hz := zero_len w.L k
      have go : ∀ cc, cc = rowF (zeroC w.L) 0 (k + 1) ++ zerR (w.L.length - (k + 1)) → (G77_2 q [.l g.L, .i (w.L.length : Int), .l w.L, .i (w.L.length : Int), .i ((k + 1 : Nat) : Int), .i c.I, .i f.I, .l w.L, .l cc]).run = some rr := fun cc hcc => by
        refine (need_yes ⟨hp, rfl, rfl, rfl, ⟨by simp only [I_i]; omega, by simp only [I_i]; omega⟩, by simp only [I_i, L_l, Int.toNat_natCast]; exact hcc⟩).trans ?_
        exact h
      refine rd_dec (by omega) (rd_ite (fun hc => rd_dec (by omega) (rd_dec (by omega) (rd_again (go _ ?_) hmu))) fun hc => rd_again (go _ ?_) hmu)
      · have hc0 : (lx (w.L.getD k []) 7).length = 0 := by have := eq_of_beq hc; omega
        rw [if_pos hc0] at hz
        exact fill_step hkl _ hz.symm
      · have hc0 : ¬ (lx (w.L.getD k []) 7).length = 0 := fun e => by rw [e] at hc; cases hc
        rw [if_neg hc0] at hz
        exact fill_same hkl hz
    · rw [← h, fill_end (by omega) (by omega)]
      rfl
  · cases h
theorem ok77_9 (q n : Nat) : LoopSimY C n 1 77 (loopOf C.P 77 9) (some y77) q (mkLY 1 l77_9 (G77_9 q)) := by
  refine loop_ofY hC (sp := sp77) (lp := lp77 q) (sw := sw77) (Y := y77) (yOK_mk _ _ _) trivial trivial 1 [] (by kernel_rfl) rfl (by kernel_rfl) (fun k hk => by cases hk) (by kernel_rfl) (fun ds => ((ds.getD 2 default).I + 1).toNat) fun ds rr h => ?_
  unfold G77_9 at h
  split at h
  · rename_i g m j c f w ch
    obtain ⟨hp, h⟩ := need_some h
    rw [yes_iff] at hp
    obtain ⟨hp, h1, hc, h2, h3⟩ := hp
    have hb := big_eq
    obtain ⟨p0, p1, -⟩ := plan_of hp
    refine ⟨by rw [fuelC]; simp; omega, ?_⟩
    rw [show roundTY C (mkTabY sp77 (lp77 q) sw77 y77 q) 77 (loopOf C.P 77 9) 1 l77_9 [g, m, j, c, f, w, ch] = _ from t77_9 q g m j c f w ch]
    refine rd_if (fun hge => ?_) fun hlt => rd_out ?_
    · obtain ⟨k, hk⟩ : ∃ k : Nat, j.I = k := ⟨j.I.toNat, by omega⟩
      have hkl : k < w.L.length := by omega
      have hcl := hc.1.1
      have hd := digit_of hc.1 hkl
      have hh := (wayC_of (way_of hp hkl).1).2.2.2.2.2.2
      have e1 : ((k : Int) + 1).toNat = k + 1 := by omega
      have e2 : IntKind.i64.wrap (((lx (w.L.getD k []) 7).length : Int) - 1) = hoursN w.L k - 1 := wrap_id (by omega) (by omega)
      have e3 : ix (ch.L.getD k []) 0 = rg ch.L k := rfl
      simp only [hk, h1, Int.toNat_natCast, Nat.reduceAdd, lx_def, ix_def, upd1, rs_def, e1, e2, e3, carryF, lenN] at h h2 h3 ⊢
      rw [wrap_pred (by omega)]
      have hmu : ((k : Int) - 1 + 1).toNat < (j.I + 1).toNat := by omega
      have go : ∀ cc, cc = rs ch.L k (zeroC w.L k) → rg ch.L k + 1 ≥ hoursN w.L k → (G77_9 q [.l g.L, .i (w.L.length : Int), .i ((k : Int) - 1), .i c.I, .i f.I, .l w.L, .l cc]).run = some rr := fun cc hcc hge => by
        subst hcc
        refine (need_yes ⟨hp, rfl, set_ok hc hkl (zero_digit k), by simp only [I_i]; omega, by simp only [I_i, L_l]; omega⟩).trans ?_
        rw [if_pos hge] at h
        simp only [I_i, L_l, show ((k : Int) - 1 + 1).toNat = k by omega]
        exact h
      refine rd_dec (by omega) (rd_dec (by omega) (rd_dec (by omega) (rd_if (fun hc2 => ?_) fun hc2 => rd_out ?_)))
      · refine rd_dec (by omega) (rd_dec (by omega) (rd_if (fun hpos => rd_dec (by omega) (rd_dec (by omega) (rd_again (go _ ?_ (by omega)) hmu))) fun hneg => rd_again (go _ ?_ (by omega)) hmu))
        · have : zeroC w.L k = 0 := by unfold zeroC; rw [if_neg (by omega)]
          rw [this]
        · have : zeroC w.L k = rg ch.L k := by
            unfold zeroC
            by_cases hz : hoursN w.L k = 0
            · rw [if_pos hz]; omega
            · rw [if_neg hz]; omega
          rw [this, rs_same hc.2]
      · rw [if_neg (by omega)] at h
        exact h
    · simp only [lenN, h1, Int.toNat_natCast] at h ⊢
      have e : j.I = -1 := by omega
      rw [e] at h ⊢
      exact h
  · cases h
theorem ok77_7 (q n : Nat) : LoopSimY C n 1 77 (loopOf C.P 77 7) (some y77) q (mkLY 1 l77_7 (G77_7 q)) := by
  refine loop_ofY hC (sp := sp77) (lp := lp77 q) (sw := sw77) (Y := y77) (yOK_mk _ _ _) trivial trivial 1 [9] (by kernel_rfl) (by kernel_rfl) (by kernel_rfl) (fun k hk L hL => by simp at hk; subst hk; cases hL; exact ok77_9 q n) (by kernel_rfl) (fun ds => restC (ds.getD 4 default).L (ds.getD 5 default).L) fun ds rr h => ?_
  unfold G77_7 at h
  split at h
  · rename_i g m c f w ch
    obtain ⟨hp, h⟩ := need_some h
    rw [yes_iff] at hp
    obtain ⟨hp, hf, h1, hc, hg⟩ := hp
    have hb := big_eq
    obtain ⟨p0, p1, -⟩ := plan_of hp
    have hrl : restC w.L ch.L ≤ 1000000000000 := by unfold restC; unfold fewC at hf; omega
    refine ⟨by rw [fuelC]; show restC w.L ch.L < _; omega, ?_⟩
    rw [show roundTY C (mkTabY sp77 (lp77 q) sw77 y77 q) 77 (loopOf C.P 77 7) 1 l77_7 [g, m, c, f, w, ch] = _ from t77_7 q g m c f w ch]
    have hq : (tab77 q).q = q := rfl
    have hcl := hc.1.1
    have e1 : IntKind.i64.wrap ((w.L.length : Int) - 1) = (w.L.length : Int) - 1 := wrap_pred (by omega)
    have e2 : ((w.L.length : Int) - 1 + 1).toNat = w.L.length := by omega
    rw [all_rest hc, hcl, show q + 1 - g.L.length = (q - g.L.length) + 1 by omega, List.take_succ_cons] at h
    simp only [h1, hq, Int.toNat_natCast, e1, e2, upd1, rs_def, Bool.not_not] at h ⊢
    have hy : [D.i (w.L.length : Int)] ++ [] ++ ([D.l ch.L] ++ []) = [D.i (w.L.length : Int), D.l ch.L] := rfl
    simp only [hy]
    refine rd_ite (fun c2 => rd_out ?_) fun c2 => rd_yes ⟨hp, by trivial, hc, by omega, by omega⟩ (rd_if (fun hn => rd_out ?_) fun hn => ?_)
    · have c2 : g.L.length = q := by simpa using c2
      rw [show q - g.L.length = 0 by omega, List.take_zero] at h
      exact h
    · rw [if_pos hn, List.take_nil] at h
      exact h
    · have c2 : g.L.length ≠ q := by
        have : ¬ (g.L.length == q) = true := by rw [c2]; simp
        simpa using this
      obtain ⟨a, b, d, e, e'⟩ := carry_ok w.L.length (Nat.le_refl _) hc
      have al := a.1.1
      have hnn : 0 ≤ (carryF w.L w.L.length ch.L).2 := by omega
      rw [if_neg hn] at h
      refine rd_dec (by omega) (rd_dec (by omega) (rd_dec (by omega) (rd_dec (by omega) (rd_again ?_ ?_))))
      · have hdg := digit_of a.1 (j := (carryF w.L w.L.length ch.L).2.toNat) (by omega)
        have hh := (wayC_of (way_of hp (k := (carryF w.L w.L.length ch.L).2.toNat) (by omega)).1).2.2.2.2.2.2
        have e3 : IntKind.i64.wrap (ix ((carryF w.L w.L.length ch.L).1.getD (carryF w.L w.L.length ch.L).2.toNat []) 0 + 1) = rg (carryF w.L w.L.length ch.L).1 (carryF w.L w.L.length ch.L).2.toNat + 1 := by
          have : hoursN w.L (carryF w.L w.L.length ch.L).2.toNat ≤ 10 := by unfold hoursN; omega
          exact wrap_id (x := rg (carryF w.L w.L.length ch.L).1 (carryF w.L w.L.length ch.L).2.toNat + 1) (by omega) (by omega)
        simp only [ix_def, e3]
        refine (need_yes ⟨hp, hf, rfl, step_ok hc hnn, by simp only [L_l, List.length_append, List.length_cons, List.length_nil]; omega⟩).trans ?_
        simp only [L_l, I_i, List.length_append, List.length_cons, List.length_nil, List.append_assoc, List.cons_append, List.nil_append]
        rw [show q + 1 - (g.L.length + (0 + 1)) = q - g.L.length by omega]
        exact h
      · have hdg := digit_of a.1 (j := (carryF w.L w.L.length ch.L).2.toNat) (by omega)
        have hh := (wayC_of (way_of hp (k := (carryF w.L w.L.length ch.L).2.toNat) (by omega)).1).2.2.2.2.2.2
        have e3 : IntKind.i64.wrap (ix ((carryF w.L w.L.length ch.L).1.getD (carryF w.L w.L.length ch.L).2.toNat []) 0 + 1) = rg (carryF w.L w.L.length ch.L).1 (carryF w.L w.L.length ch.L).2.toNat + 1 := by
          have : hoursN w.L (carryF w.L w.L.length ch.L).2.toNat ≤ 10 := by unfold hoursN; omega
          exact wrap_id (x := rg (carryF w.L w.L.length ch.L).1 (carryF w.L w.L.length ch.L).2.toNat + 1) (by omega) (by omega)
        simp only [ix_def, e3]
        show restC w.L (stepC (carryF w.L w.L.length ch.L)) < restC w.L ch.L
        rw [rest_step hc (by omega)]
        omega
  · cases h
theorem ok77 (n : Nat) : IterOK C (n + 1) 77 y77 (mkFY s77 G77) := by
  refine iter_of hC (sp := sp77) (lp := lp77) (sw := sw77) (Y := y77) (yOK_mk _ _ _) trivial trivial (by kernel_rfl) [2, 7] (by kernel_rfl) (by kernel_rfl) (by kernel_rfl) (fun q k hk L hL => by
    simp at hk
    rcases hk with rfl | rfl <;> cases hL
    · exact ok77_2 q n
    · exact ok77_7 q n) fun ds L h q => ?_
  unfold G77 at h
  split at h
  · rename_i c f w
    obtain ⟨hp, h⟩ := need_some h
    rw [yes_iff] at hp
    cases h
    obtain ⟨hp, hf⟩ := hp
    obtain ⟨p0, p1, -⟩ := plan_of hp
    have hb := big_eq
    refine (congrArg T.run (t77 q c f w)).trans ?_
    simp only [Int.toNat_natCast, Int.toNat_zero, Nat.sub_zero, List.length_replicate, bytes3, rest_first, List.length_nil, List.nil_append]
    exact go_dec ⟨by omega, by trivial, by omega, by omega⟩ (go_yes ⟨hp, by trivial, by trivial, by trivial, by omega, rfl⟩ (go_yes ⟨hp, hf, by trivial, first_ok, by omega⟩ rfl))
  · cases h
theorem ok56 (n : Nat) : FnOKW C (n + 1) 56 (mkFW s56 G56) := by
  refine fn_ofW hC (sp := sp56) (lp := lp56) (sw := sw56) trivial trivial (by kernel_rfl) [] (by kernel_rfl) rfl (fun k hk => by cases hk) fun ds rr h => ?_
  unfold G56 at h
  split at h
  · rename_i c f w
    refine (congrArg T.run (t56 c f w)).trans ?_
    exact h
  · cases h
end Go.Proofs.Ytipbcpobnciccaa
namespace Go.Proofs.Ytipbcpobnciccaa
open Go.Lite
set_option maxRecDepth 100000
theorem ok58_3 (n : Nat) : LoopSimK C (n + 1) 1 58 (loopOf C.P 58 3) (mkLK 1 l58_3 G58_3) := by
  refine loop_ofK hC (sp := sp58) (lp := lp58) (sw := sw58) ⟨ok67 n, ok73 n, trivial⟩ trivial 1 [] (by kernel_rfl) rfl (fun k hk => by cases hk) (by kernel_rfl) (fun ds => ((ds.getD 4 default).I - (ds.getD 5 default).I).toNat) fun ds rr h => ?_
  unfold G58_3 at h
  split at h
  · rename_i hd lo m w' q i du c f w lo2 n2 n3 ch
    obtain ⟨hp, h⟩ := need_some h
    rw [yes_iff] at hp
    obtain ⟨e0, hp, h1, h2, h3, h4, h5, hdu, h6, h7, h8⟩ := hp
    have hb := big_eq
    obtain ⟨p0, p1, -⟩ := plan_of hp
    refine ⟨by rw [fuelC]; simp; omega, ?_⟩
    rw [roundTK_head (j := hd) (n := 0) e0 (by decide), show roundTK C (mkTab sp58 lp58 sw58) 58 (loopOf C.P 58 3) 1 l58_3 [.i 0, lo, m, w', q, i, du, c, f, w, lo2, n2, n3, ch] = _ from t58_3_0 lo m w' q i du c f w lo2 n2 n3 ch]
    have h0 : 0 < w.L.length := by omega
    have c1 := wayC_of (way_of hp h0).1
    have b1 := busy_of hp h0
    have d1 := hdu.2 1
    have dl := hdu.1
    have z1 : IntKind.i64.wrap ((0 : Int) + 1) = 1 := by decide
    have z2 : Int.toNat 1 = 1 := rfl
    have z3 : ((w.L.length : Int) + 1).toNat = w.L.length + 1 := by omega
    have z4 : IntKind.i64.wrap (ix (du.L.getD 1 []) 0 - ix (w.L.getD 0 []) 1) = clG w.L (duF du.L) 0 := wrap_id (x := rg du.L 1 - ix (w.L.getD 0 []) 1) (by omega) (by omega)
    have z5 : IntKind.i64.wrap (ix (du.L.getD 1 []) 0 + busyF c.I (w.L.getD 0 [])) = opG c.I w.L (duF du.L) 0 := wrap_id (x := rg du.L 1 + busyF c.I (w.L.getD 0 [])) (by omega) (by omega)
    simp only [h1, h2, h3, h4, h5, h6, h7, h8, Int.toNat_natCast, Int.toNat_zero, Nat.add_zero, ix_def, Nat.reduceAdd, z1, z2, z3, z4, z5] at h ⊢
    refine rd_pos (by omega) (rd_dec (by omega) (rd_dec (by omega) (rd_dec (by omega) (rd_need rfl (rd_false rfl (rd_need rfl (rd_dec (by omega) (rd_dec (by omega) (rd_yes ⟨hp, by omega, by omega⟩ (rd_need rfl (rd_false rfl (rd_need rfl (rd_again ?_ ?_)))))))))))))
    · refine (need_yes ⟨rfl, hp, rfl, by simp only [I_i, L_l]; omega, rfl, rfl, ⟨by simp only [I_i]; omega, by simp only [I_i, L_l]; omega⟩, hdu, rfl, by simp only [I_i, L_l]; omega, rfl, rfl, rfl, rfl, rfl⟩).trans ?_
      rw [← h]
      rfl
    · show ((w.L.length : Int) - 1).toNat < (q.I - i.I).toNat
      omega
  · rename_i hd lo m w' q i du c f w lo2 n2 n4 n5 n3 cl op ch
    obtain ⟨hp, h⟩ := need_some h
    rw [yes_iff] at hp
    obtain ⟨e0, hp, h1, h2, h3, h4, h5, hdu, h6, h7, h8, h9, h10, h11, h12⟩ := hp
    have hb := big_eq
    obtain ⟨p0, p1, -⟩ := plan_of hp
    refine ⟨by rw [fuelC]; simp; omega, ?_⟩
    rw [roundTK_head (j := hd) (n := 1) e0 (by decide), show roundTK C (mkTab sp58 lp58 sw58) 58 (loopOf C.P 58 3) 1 l58_3 [.i 1, lo, m, w', q, i, du, c, f, w, lo2, n2, n4, n5, n3, cl, op, ch] = _ from t58_3_1 lo m w' q i du c f w lo2 n2 n4 n5 n3 cl op ch]
    obtain ⟨k, hk⟩ : ∃ k : Nat, i.I = k := ⟨i.I.toNat, by omega⟩
    have dl := hdu.1
    have z2 : Int.toNat 1 = 1 := rfl
    have z3 : ((w.L.length : Int) + 1).toNat = w.L.length + 1 := by omega
    have lc := len_rowF (clG w.L (duF du.L)) k 0
    have lo' := len_rowF (opG c.I w.L (duF du.L)) k 0
    have y1 : (rowF (clG w.L (duF du.L)) 0 k).take k = rowF (clG w.L (duF du.L)) 0 k := List.take_of_length_le (by omega)
    have y2 : (rowF (opG c.I w.L (duF du.L)) 0 k).take k = rowF (opG c.I w.L (duF du.L)) 0 k := List.take_of_length_le (by omega)
    have t1 : ∀ y : List D, List.take 1 [y] = [y] := fun _ => rfl
    have b3 : Try.prog.types[3].bytes = 8 := by kernel_rfl
    simp only [hk, h1, h2, h3, h4, h6, h7, h8, h9, h10, h11, h12, Int.toNat_natCast, ix_def, z2, z3, lc, lo', y1, y2, List.length_cons, List.length_nil, Nat.zero_add, t1, b3] at h h5 ⊢
    refine rd_if (fun hlt => ?_) fun hge => rd_out ?_
    · have hkl : k < w.L.length := by omega
      have c1 := wayC_of (way_of hp hkl).1
      have b1 := busy_of hp hkl
      have d1 := hdu.2 (1 + k)
      have z4 : IntKind.i64.wrap (ix (du.L.getD (1 + k) []) 0 - ix (w.L.getD k []) 1) = clG w.L (duF du.L) (0 + k) := (wrap_id (x := rg du.L (1 + k) - ix (w.L.getD k []) 1) (by omega) (by omega)).trans (by unfold clG duF; rw [Nat.zero_add, Nat.add_comm 1 k])
      have z5 : IntKind.i64.wrap (ix (du.L.getD (1 + k) []) 0 + busyF c.I (w.L.getD k [])) = opG c.I w.L (duF du.L) (0 + k) := (wrap_id (x := rg du.L (1 + k) + busyF c.I (w.L.getD k [])) (by omega) (by omega)).trans (by unfold opG duF; rw [Nat.zero_add, Nat.add_comm 1 k])
      rw [wrap_succ (by omega)]
      simp only [z4, z5, rowF_snoc]
      refine rd_dec (by omega) (rd_dec (by omega) (rd_dec (by omega) (rd_need rfl (rd_false rfl (rd_dec (by omega) (rd_dec (by omega) (rd_dec (by omega) (rd_yes ⟨hp, by omega, by omega⟩ (rd_need rfl (rd_false rfl (rd_dec (by omega) (rd_again ?_ ?_))))))))))))
      · refine (need_yes ⟨rfl, hp, rfl, by simp only [I_i, L_l]; omega, rfl, rfl, ⟨by simp only [I_i]; omega, by simp only [I_i, L_l]; omega⟩, hdu, rfl, by simp only [I_i, L_l]; omega, rfl, rfl, rfl, by simp only [I_i, L_l, Int.toNat_natCast], by simp only [I_i, L_l, Int.toNat_natCast]⟩).trans ?_
        rw [← h]
        rfl
      · show ((w.L.length : Int) - ((k + 1 : Nat) : Int)).toNat < (q.I - i.I).toNat
        omega
    · rw [← h]
      have e : k = w.L.length := by omega
      subst e
      rfl
  · cases h
theorem ok58 (n : Nat) : FnOKW C (n + 2) 58 (mkFW s58 G58) := by
  refine fn_ofW hC (sp := sp58) (lp := lp58) (sw := sw58) ⟨ok67 n, ok73 n, trivial⟩ trivial (by kernel_rfl) [3] (by kernel_rfl) (by kernel_rfl) (fun k hk L hL => by simp at hk; subst hk; cases hL; exact ok58_3 n) fun ds rr h => ?_
  unfold G58 at h
  split at h
  · rename_i c f w ch lo m du
    obtain ⟨hp, h⟩ := need_some h
    rw [yes_iff] at hp
    obtain ⟨hp, hc, h1, h2, hdu⟩ := hp
    refine (congrArg T.run (t58 c f w ch lo m du)).trans ?_
    obtain ⟨p0, p1, -⟩ := plan_of hp
    rw [← h]
    simp only [Int.toNat_natCast]
    refine go_yes ⟨fun e => by rw [e] at hc; simp at hc; omega, by omega⟩ (go_yes ⟨by trivial, hp, by omega, by omega, by trivial, by trivial, by trivial, hdu, by omega, by omega, by trivial⟩ rfl)
  · cases h
end Go.Proofs.Ytipbcpobnciccaa
namespace Go.Proofs.Ytipbcpobnciccaa
open Go.Lite
def s23 : Sig := ⟨[.agg [.k (.int .i64), .k (.int .i64), .k (.ro [.int .i64, .int .i64, .int .i64, .int .i64, .bool, .int .i64, .int .i64, .ro [.int .i64, .int .i64, .int .i64]])]], [(.tup [.agg [.nils, .nils, .nils, .nils], .k (.int .i64)], []), (.tup [.agg [.sub 0 1, .sl 1 1, .sl 2 1, .sl 3 1], .k (.int .i64)], [.row [.int .i64], .row [.int .i64], .row [.int .i64], .row [.int .i64]])]⟩
def h23_7 : List Shp := [mkShp (35, [(1, .ptr 0 3 0 0), (2, .ptr 1 4 0 0), (3, .ptr 2 1 0 0), (5, .ptr 3 1 0 0), (16, .fn 77 [] [.any])], [.box [.k (.int .i64), .k (.int .i64), .k (.ro [.int .i64, .int .i64, .int .i64, .int .i64, .bool, .int .i64, .int .i64, .ro [.int .i64, .int .i64, .int .i64]])], .box [.nils, .nils, .nils, .nils], .box [.k (.int .i64)], .box [.k (.int .i64)]]), mkShp (35, [(1, .ptr 0 3 0 0), (2, .ptr 1 4 0 0), (3, .ptr 2 1 0 0), (5, .ptr 3 1 0 0), (16, .fn 77 [] [.any])], [.box [.k (.int .i64), .k (.int .i64), .k (.ro [.int .i64, .int .i64, .int .i64, .int .i64, .bool, .int .i64, .int .i64, .ro [.int .i64, .int .i64, .int .i64]])], .box [.sub 4 1, .sl 5 1, .sl 6 1, .sl 7 1], .box [.k (.int .i64)], .box [.k (.int .i64)], .row [.int .i64], .row [.int .i64], .row [.int .i64], .row [.int .i64]])]
def s43 : Sig := ⟨[.agg [.k (.ro [.int .i64]), .k (.ro [.int .i64]), .k (.ro [.int .i64]), .k (.ro [.int .i64])], .agg [.k (.ro [.int .i64]), .k (.ro [.int .i64]), .k (.ro [.int .i64]), .k (.ro [.int .i64])]], [(.k .bool, [])]⟩
def s24 : Sig := ⟨[.agg [.k (.ro [.int .i64]), .k (.ro [.int .i64]), .k (.ro [.int .i64]), .k (.ro [.int .i64])]], [(.k .bool, [])]⟩
end Go.Proofs.Ytipbcpobnciccaa
namespace Go.Proofs.Ytipbcpobnciccaa
open Go.Lite
noncomputable section
def chY (x : List D) : List (List D) := lx x 1
def pickF (c f : Int) (w : List (List D)) : List (List D) → Int → Int × List (List D) × Int
  | [], t => (5, [], t)
  | x :: L, t => if t = 20000 then (9, [], t) else if duesOk c f w (chY x) then (0, chY x, t + 1) else pickF c f w L (t + 1)
def yOK (w : List (List D)) (x : List D) : Prop := x = [.i w.length, .l (chY x)] ∧ carOK w (chY x)
def rowP (c f : Int) (w ch : List (List D)) : List (List D) := (pushP true c f w ch).1
def G23_7 (L : List (List D)) (ds : List D) : T (Ex × List D) := match ds with
  | [h, c, f, w, e, t] => .need (yes (h.I = 0 ∧ planB c.I f.I w.L = true ∧ (∀ x ∈ L, yOK w.L x) ∧ 0 ≤ t.I ∧ t.I ≤ 20000))
      (.ite (decide ((pickF c.I f.I w.L L t.I).1 = 0))
        (.leaf (.ret, [.i 1, .i c.I, .i f.I, .l w.L, .i 1, .i (w.L.length + 1 : Nat), .i w.L.length, .i w.L.length, .i w.L.length, .i 0, .i (pickF c.I f.I w.L L t.I).2.2, .l (rowP c.I f.I w.L (pickF c.I f.I w.L L t.I).2.1),
          .l (clR c.I f.I w.L (pickF c.I f.I w.L L t.I).2.1), .l (opR c.I f.I w.L (pickF c.I f.I w.L L t.I).2.1), .l (pickF c.I f.I w.L L t.I).2.1]))
        (.ite (decide ((pickF c.I f.I w.L L t.I).1 = 9)) (.leaf (.ret, [.i 0, .i c.I, .i f.I, .l w.L, .i 9, .i (pickF c.I f.I w.L L t.I).2.2])) (.leaf (.normal, [.i 0, .i c.I, .i f.I, .l w.L, .i e.I, .i (pickF c.I f.I w.L L t.I).2.2]))))
  | _ => .fail
def G23 (ds : List D) : T (List D) := match ds with
  | [c, f, w] => .ite (planB c.I f.I w.L)
      (.need (yes (fewC w.L)) (.ite (decide ((foundC c.I f.I w.L).1 = 0))
        (.leaf [.i 1, .i 1, .i (w.L.length + 1 : Nat), .i w.L.length, .i w.L.length, .i w.L.length, .i 0, .l (rowP c.I f.I w.L (foundC c.I f.I w.L).2), .l (clR c.I f.I w.L (foundC c.I f.I w.L).2), .l (opR c.I f.I w.L (foundC c.I f.I w.L).2), .l (foundC c.I f.I w.L).2])
        (.leaf [.i 0, .i (foundC c.I f.I w.L).1])))
      (.leaf [.i 0, .i 2])
  | _ => .fail
def G43 (ds : List D) : T (List D) := match ds with
  | [a, b, c, d, a', b', c', d'] => .need (yes (a.L.length < big ∧ b.L.length < big ∧ c.L.length < big ∧ d.L.length < big)) (.leaf [.b (sameR a.L a'.L && (sameR b.L b'.L && (sameR c.L c'.L && sameR d.L d'.L)))])
  | _ => .fail
def G24 (ds : List D) : T (List D) := match ds with
  | [a, b, c, d] => .need (yes (a.L.length ≤ 1000000000 ∧ b.L.length ≤ 1000000000 ∧ c.L.length ≤ 1000000000 ∧ d.L.length ≤ 1000000000)) (.leaf [.b (decide (a.L.length + b.L.length + c.L.length + d.L.length = 0))])
  | _ => .fail
end
end Go.Proofs.Ytipbcpobnciccaa
namespace Go.Proofs.Ytipbcpobnciccaa
open Go.Lite
noncomputable def it23_7 : ItL := [(77, mkFY s77 G77)]
noncomputable def sp23 : SpL := [(41, mkF s41 G41), (57, mkF s57 G57)]
noncomputable def lp23 : LpL := []
noncomputable def sw23 : SwL := [(56, mkFW s56 G56), (58, mkFW s58 G58)]
noncomputable def rg23 : LpL := [(7, rangeS 0 [1, 2, 3, 5, 16] (rangeOf C.P 23 7).1 it23_7 h23_7 G23_7)]
noncomputable def tab23 : Tab := mkTabR sp23 lp23 sw23 rg23
noncomputable def sp43 : SpL := [(21, mkF s21 G21)]
noncomputable def lp43 : LpL := []
noncomputable def sw43 : SwL := []
noncomputable def tab43 : Tab := mkTab sp43 lp43 sw43
noncomputable def sp24 : SpL := []
noncomputable def lp24 : LpL := []
noncomputable def sw24 : SwL := []
noncomputable def tab24 : Tab := mkTab sp24 lp24 sw24
end Go.Proofs.Ytipbcpobnciccaa
namespace Go.Proofs.Ytipbcpobnciccaa
open Go.Lite
set_option linter.unusedVariables false
set_option maxRecDepth 100000
theorem t23 (a b c : D) : fnT C tab23 23 s23 [a, b, c] =
  T.ite ((if planB a.I b.I c.L = true then (0 : Int) else (2 : Int)) != (0 : Int)) (T.leaf [D.i 0, D.i (if planB a.I b.I c.L = true then (0 : Int) else (2 : Int))]) (T.need (yes (planB a.I b.I c.L = true ∧ fewC c.L)) (T.need (yes ((↑0 : Int) = (0 : Int) ∧ planB a.I b.I c.L = true ∧ (∀ (x : List D), x ∈ allC c.L (prodF c.L c.L.length) (firstC c.L) → yOK c.L x) ∧ (0 : Int) ≤ (0 : Int) ∧ (0 : Int) ≤ (20000 : Int))) (T.ite (decide ((pickF a.I b.I c.L (allC c.L (prodF c.L c.L.length) (firstC c.L)) (0 : Int)).fst = (0 : Int))) (T.leaf [D.i 1, D.i 1, D.i (↑(Int.toNat (↑(c.L.length + 1) : Int)) : Int), D.i (↑(Int.toNat (c.L.length : Int)) : Int), D.i (↑(Int.toNat (c.L.length : Int)) : Int), D.i (↑(Int.toNat (c.L.length : Int)) : Int), D.i 0, D.l (rowP a.I b.I c.L (pickF a.I b.I c.L (allC c.L (prodF c.L c.L.length) (firstC c.L)) (0 : Int)).snd.fst), D.l (clR a.I b.I c.L (pickF a.I b.I c.L (allC c.L (prodF c.L c.L.length) (firstC c.L)) (0 : Int)).snd.fst), D.l (opR a.I b.I c.L (pickF a.I b.I c.L (allC c.L (prodF c.L c.L.length) (firstC c.L)) (0 : Int)).snd.fst), D.l (pickF a.I b.I c.L (allC c.L (prodF c.L c.L.length) (firstC c.L)) (0 : Int)).snd.fst]) (T.ite (decide ((pickF a.I b.I c.L (allC c.L (prodF c.L c.L.length) (firstC c.L)) (0 : Int)).fst = (9 : Int))) (T.leaf [D.i 0, D.i 9]) (T.leaf [D.i 0, D.i 5]))))) := by kernel_rfl
theorem t23_r7_0 (a b c d e f g : D) : roundRT C tab23 23 (rangeOf C.P 23 7) 0 5 [1, 2, 3, 5, 16] h23_7 y77 [.i 0, a, b, c, d, e] [f, g] =
  T.ite (e.I == (20000 : Int)) (T.leaf (Rd.out Ex.ret [D.i 0, D.i a.I, D.i b.I, D.l c.L, D.i 9, D.i e.I], [D.i (f.I.toNat : Int), D.l g.L])) (T.need (decide (f.I.toNat ≤ g.L.length)) (T.need (yes (planB a.I b.I c.L = true ∧ chOK c.L (List.take f.I.toNat g.L))) (T.ite (duesOk a.I b.I c.L (List.take f.I.toNat g.L)) (T.ite true (T.need (decide (f.I.toNat ≤ g.L.length)) (T.need (yes (planB a.I b.I c.L = true ∧ List.length (List.take f.I.toNat g.L) = c.L.length ∧ (↑(Int.toNat (1 : Int)) : Int) = (1 : Int) ∧ (↑(Int.toNat (↑(c.L.length + 1) : Int)) : Int) = (c.L.length : Int) + (1 : Int) ∧ duOK c.L (pushP true a.I b.I c.L (List.take f.I.toNat g.L)).fst)) (T.leaf (Rd.out Ex.ret [D.i 1, D.i a.I, D.i b.I, D.l c.L, D.i 1, D.i (↑(Int.toNat (↑(c.L.length + 1) : Int)) : Int), D.i (↑(Int.toNat (c.L.length : Int)) : Int), D.i (↑(Int.toNat (c.L.length : Int)) : Int), D.i (↑(Int.toNat (↑(List.length (List.take f.I.toNat g.L)) : Int)) : Int), D.i 0, D.i (IntKind.wrap IntKind.i64 (e.I + (1 : Int))), D.l (pushP true a.I b.I c.L (List.take f.I.toNat g.L)).fst, D.l (rowF (clG c.L (duF (pushP true a.I b.I c.L (List.take f.I.toNat g.L)).fst)) 0 c.L.length), D.l (rowF (opG a.I c.L (duF (pushP true a.I b.I c.L (List.take f.I.toNat g.L)).fst)) 0 c.L.length), D.l (List.take f.I.toNat g.L)], [D.i (f.I.toNat : Int), D.l g.L])))) (T.leaf (Rd.again [D.i 0, D.i a.I, D.i b.I, D.l c.L, D.i d.I, D.i (IntKind.wrap IntKind.i64 (e.I + (1 : Int)))], [D.i (f.I.toNat : Int), D.l g.L]))) (T.ite false (T.need (decide (f.I.toNat ≤ g.L.length)) T.fail) (T.leaf (Rd.again [D.i 0, D.i a.I, D.i b.I, D.l c.L, D.i d.I, D.i (IntKind.wrap IntKind.i64 (e.I + (1 : Int)))], [D.i (f.I.toNat : Int), D.l g.L])))))) := by kernel_rfl
theorem t43 (a b c d e f g h : D) : fnT C tab43 43 s43 [a, b, c, d, e, f, g, h] =
  T.need (yes (a.L.length < big)) (T.ite (sameR a.L e.L) (T.need (yes (b.L.length < big)) (T.ite (sameR b.L f.L) (T.need (yes (c.L.length < big)) (T.ite (sameR c.L g.L) (T.need (yes (d.L.length < big)) (T.leaf [D.b (sameR d.L h.L)])) (T.leaf [D.b false]))) (T.leaf [D.b false]))) (T.leaf [D.b false])) := by kernel_rfl
theorem t24 (a b c d : D) : fnT C tab24 24 s24 [a, b, c, d] =
  T.leaf [D.b (IntKind.wrap IntKind.i64 (IntKind.wrap IntKind.i64 (IntKind.wrap IntKind.i64 ((a.L.length : Int) + (b.L.length : Int)) + (c.L.length : Int)) + (d.L.length : Int)) == (0 : Int))] := by kernel_rfl
end Go.Proofs.Ytipbcpobnciccaa
namespace Go.Proofs.Ytipbcpobnciccaa
open Go.Lite
set_option maxRecDepth 100000
section
variable {c f : Int} {w : List (List D)}
theorem all_ok : ∀ (n : Nat) {ch : List (List D)}, carOK w ch → ∀ x ∈ allC w n ch, yOK w x
  | 0, _, _, x, hx => by cases hx
  | n + 1, ch, h, x, hx => by
    simp only [allC, List.mem_cons] at hx
    rcases hx with rfl | hx
    · refine ⟨?_, h⟩
      show [D.i ch.length, D.l ch] = _
      rw [h.1.1]
      rfl
    · split at hx
      · cases hx
      · exact all_ok n (step_ok h (by omega)) x hx
theorem pick_make : ∀ (k : Nat) {ch : List (List D)} {t : Int}, carOK w ch → t = 20000 - k → (pickF c f w (allC w (restC w ch) ch) t).1 = (makeF c f w k ch).1 ∧ ((makeF c f w k ch).1 = 0 → (pickF c f w (allC w (restC w ch) ch) t).2.1 = (makeF c f w k ch).2)
  | 0, ch, t, h, ht => by
    rw [all_rest h]
    simp only [pickF, makeF]
    rw [if_pos (by omega)]
    exact ⟨rfl, fun h => by simp at h⟩
  | k + 1, ch, t, h, ht => by
    rw [all_rest h]
    have e : chY [.i ch.length, .l ch] = ch := rfl
    simp only [pickF, makeF, e]
    rw [if_neg (by omega)]
    by_cases hd : duesOk c f w ch = true
    · rw [if_pos hd, if_pos hd]
      exact ⟨rfl, fun _ => rfl⟩
    · rw [if_neg hd, if_neg hd]
      by_cases hn : (carryF w w.length ch).2 < 0
      · rw [if_pos hn, if_pos hn]
        simp only [pickF]
        exact ⟨by trivial, fun h => by simp at h⟩
      · rw [if_neg hn, if_neg hn]
        exact pick_make k (step_ok h (by omega)) (by omega)
theorem make_ok : ∀ (k : Nat) {ch : List (List D)}, carOK w ch → (makeF c f w k ch).1 = 0 ∧ carOK w (makeF c f w k ch).2 ∧ duesOk c f w (makeF c f w k ch).2 = true ∨ (makeF c f w k ch).1 = 5 ∨ (makeF c f w k ch).1 = 9
  | 0, ch, h => .inr (.inr rfl)
  | k + 1, ch, h => by
    simp only [makeF]
    by_cases hd : duesOk c f w ch = true
    · rw [if_pos hd]
      exact .inl ⟨rfl, h, hd⟩
    · rw [if_neg hd]
      by_cases hn : (carryF w w.length ch).2 < 0
      · rw [if_pos hn]
        exact .inr (.inl rfl)
      · rw [if_neg hn]
        exact make_ok k (step_ok h (by omega))
theorem row_dues {ch : List (List D)} (hp : planB c f w = true) (hc : chOK w ch) (hd : duesOk c f w ch = true) : duOK w (rowP c f w ch) ∧ (rowP c f w ch).drop 1 = dueL c f w ch ∧ rowF (clG w (duF (rowP c f w ch))) 0 w.length = clR c f w ch ∧ rowF (opG c w (duF (rowP c f w ch))) 0 w.length = opR c f w ch := by
  have hr : (pushP true c f w ch).2.2 < 0 := by
    unfold duesOk at hd
    rw [Bool.and_eq_true, decide_eq_true_eq] at hd
    exact hd.2
  have he := (push_ends hp hc).2 hr
  obtain ⟨q1, q2, q3, -⟩ := push_plan true hp hc hr
  obtain ⟨-, -, -, d4, -⟩ := due_least (f := f) hp hc
  have g : ∀ j, duF (rowP c f w ch) j = rg (dueL c f w ch) j := fun j => by
    unfold duF rowP
    rw [← he, rg_drop, Nat.add_comm]
  refine ⟨⟨q3, fun j => ⟨q2 j, ?_⟩⟩, he, rowF_ext _ _ fun j _ _ => ?_, rowF_ext _ _ fun j _ _ => ?_⟩
  · cases j with
    | zero =>
      have : rg (rowP c f w ch) 0 = 0 := q1
      omega
    | succ j =>
      have := g j
      unfold duF at this
      have := d4 j
      omega
  · unfold clG
    rw [g]
  · unfold opG
    rw [g]
end
theorem headA_head {hs : List Shp} {j : D} {n : Int} (r : List D) (h : j.I = n) (hl : 2 ≤ hs.length) : headA hs (j :: r) = headA hs (.i n :: r) := by
  match hs, hl with
  | a :: b :: c, _ => simp only [headA, List.headD_cons, List.tail_cons, I_i, h]
theorem roundRT_head {C : Cfg} {tab : Tab} {f : FuncId} {r : Rg} {k kk : Nat} {live : List Nat} {hs : List Shp} {Y : YS} {j : D} {n : Int} (ds el : List D) (h : j.I = n) (hl : 2 ≤ hs.length) : roundRT C tab f r k kk live hs Y (j :: ds) el = roundRT C tab f r k kk live hs Y (.i n :: ds) el := by
  unfold roundRT
  rw [headA_head ds h hl]
theorem fold23 (L : List (List D)) : ∀ (ds : List D) (rr : Ex × List D), (G23_7 L ds).run = some rr → FoldR (fun ds el => (roundRT C tab23 23 (rangeOf C.P 23 7) 0 5 [1, 2, 3, 5, 16] h23_7 y77 ds el).run) y77.give (fun a b => headA h23_7 a = headA h23_7 b) ds L rr.1 rr.2 := by
  induction L with
  | nil =>
    intro ds rr h
    unfold G23_7 at h
    split at h
    · rename_i z c f w e t
      obtain ⟨hp, h⟩ := need_some h
      rw [yes_iff] at hp
      simp only [pickF] at h
      rw [run_ite, if_neg (by simp), run_ite, if_neg (by simp)] at h
      cases h
      exact .nil (by rw [headA_head _ hp.1 (by decide)]; rfl)
    · cases h
  | cons x L ih =>
    intro ds rr h
    unfold G23_7 at h
    split at h
    · rename_i z c f w e t
      obtain ⟨hp, h⟩ := need_some h
      rw [yes_iff] at hp
      obtain ⟨hz, hp, hy, ht0, ht1⟩ := hp
      have hx := hy x List.mem_cons_self
      have hxs : ∀ x ∈ L, yOK w.L x := fun y hy' => hy y (List.mem_cons_of_mem _ hy')
      obtain ⟨hxe, hxc⟩ := hx
      generalize hch : chY x = ch at hxe hxc
      have hcl := hxc.1.1
      obtain ⟨p0, p1, -⟩ := plan_of hp
      have htk : ch.take w.L.length = ch := List.take_of_length_le (by omega)
      have e0 : roundRT C tab23 23 (rangeOf C.P 23 7) 0 5 [1, 2, 3, 5, 16] h23_7 y77 [z, c, f, w, e, t] x = roundRT C tab23 23 (rangeOf C.P 23 7) 0 5 [1, 2, 3, 5, 16] h23_7 y77 [.i 0, c, f, w, e, t] [.i w.L.length, .l ch] := by
        rw [roundRT_head _ _ hz (by decide), hxe]
      have hround := congrArg T.run (e0.trans (t23_r7_0 c f w e t (.i w.L.length) (.l ch)))
      simp only [I_i, L_l, Int.toNat_natCast, htk] at hround
      simp only [pickF, hch] at h
      by_cases h20 : t.I = 20000
      · rw [if_pos h20] at h
        rw [run_ite, if_neg (by simp), run_ite, if_pos (by simp)] at h
        cases h
        refine .out (x' := x) ?_ (fun _ => rfl) (by simp)
        refine hround.trans ?_
        rw [run_ite, if_pos (by simp [h20]), hxe]
        rfl
      · rw [if_neg h20] at h
        rw [wrap_id (x := t.I + 1) (by omega) (by omega)] at hround
        by_cases hd : duesOk c.I f.I w.L ch = true
        · rw [if_pos hd] at h
          rw [run_ite, if_pos (by simp)] at h
          cases h
          obtain ⟨r1, r2, r3, r4⟩ := row_dues hp hxc.1 hd
          refine .out (x' := x) ?_ (fun _ => rfl) (by simp)
          refine hround.trans ?_
          have z1 : (Int.toNat 1 : Int) = 1 := rfl
          have e1 : (pushP true c.I f.I w.L ch).1 = rowP c.I f.I w.L ch := rfl
          simp only [e1, r3, r4]
          refine go_false (by simp [h20]) (go_dec (by omega) (go_yes ⟨hp, hxc.1⟩ (go_true hd (go_true rfl (go_dec (by omega) (go_yes ⟨hp, hcl, z1, by omega, r1⟩ ?_))))))
          rw [hxe, hcl]
          rfl
        · rw [if_neg hd] at h
          have hd : duesOk c.I f.I w.L ch = false := by simpa using hd
          refine .again (x' := x) (ds' := [.i 0, .i c.I, .i f.I, .l w.L, .i e.I, .i (t.I + 1)]) ?_ (fun _ => rfl) (ih _ _ ?_)
          · refine hround.trans ?_
            refine go_false (by simp [h20]) (go_dec (by omega) (go_yes ⟨hp, hxc.1⟩ (go_false hd (go_false rfl ?_))))
            rw [hxe]
            rfl
          · refine (need_yes ⟨rfl, hp, hxs, by simp only [I_i]; omega, by simp only [I_i]; omega⟩).trans ?_
            exact h
    · cases h
theorem ok23_7 (n : Nat) : CodeSim C (n + 6) 0 23 (rangeOf C.P 23 7).code none 0 (rangeS 0 [1, 2, 3, 5, 16] (rangeOf C.P 23 7).1 it23_7 h23_7 G23_7) :=
  range_of hC (sp := sp23) (lp := lp23) (sw := sw23) (rg := rg23) (Y := y77) (yOK_mk _ _ _) ⟨ok41 n, ok57 (n + 3), trivial⟩ ⟨ok56 (n + 5), ok58 (n + 4), trivial⟩ 7 0 5 [] (by kernel_rfl) rfl (by kernel_rfl) (by exact ⟨by kernel_rfl, by kernel_rfl⟩) (fun k hk => by cases hk)
    (by kernel_rfl) (by kernel_rfl) (it := it23_7) ⟨ok77 (n + 5), trivial⟩ fun L ds rr h => fold23 L ds rr h
theorem ok23 (n : Nat) : FnOK C (n + 7) 23 (mkF s23 G23) := by
  refine fn_ofR hC (sp := sp23) (lp := lp23) (sw := sw23) (rg := rg23) ⟨ok41 n, ok57 (n + 3), trivial⟩ ⟨ok56 (n + 5), ok58 (n + 4), trivial⟩ (by kernel_rfl) [] [7] (by kernel_rfl) rfl (by kernel_rfl) (by kernel_rfl) (fun k hk => by cases hk) (fun k hk L hL => by
    simp at hk; subst hk; cases hL; exact ok23_7 n) fun ds r h => ?_
  unfold G23 at h
  split at h
  · rename_i c f w
    refine (congrArg T.run (t23 c f w)).trans ?_
    cases hp : planB c.I f.I w.L with
    | false =>
      rw [hp] at h
      exact h
    | true =>
      rw [hp] at h
      obtain ⟨hf, h⟩ := need_some (show (T.need _ _).run = some r from h)
      rw [yes_iff] at hf
      have hall := all_ok (w := w.L) (prodF w.L w.L.length) first_ok
      rw [← rest_first] at hall ⊢
      have hpm := pick_make (c := c.I) (f := f.I) (w := w.L) 20000 (ch := firstC w.L) (t := 0) first_ok (by decide)
      have hmk : makeF c.I f.I w.L 20000 (firstC w.L) = foundC c.I f.I w.L := rfl
      rw [hmk] at hpm
      have hcs := make_ok (c := c.I) (f := f.I) (w := w.L) 20000 (ch := firstC w.L) first_ok
      rw [hmk] at hcs
      generalize pickF c.I f.I w.L (allC w.L (restC w.L (firstC w.L)) (firstC w.L)) 0 = pk at hpm ⊢
      obtain ⟨k1, k2⟩ := hpm
      simp only [k1, Int.toNat_natCast, if_true]
      refine go_false rfl (go_yes ⟨by trivial, hf⟩ (go_yes ⟨by trivial, by trivial, hall, by omega, by omega⟩ ?_))
      rcases hcs with ⟨h0, -, -⟩ | h5 | h9
      · rw [h0, k2 h0]
        rw [h0] at h
        exact h
      · rw [h5]
        rw [h5] at h
        exact h
      · rw [h9]
        rw [h9] at h
        exact h
  · cases h
theorem ok43 (n : Nat) : FnOK C (n + 2) 43 (mkF s43 G43) := by
  refine fn_ofS hC (sp := sp43) (lp := lp43) (sw := sw43) ⟨ok21 n, trivial⟩ trivial (by kernel_rfl) [] (by kernel_rfl) rfl (fun k hk => by cases hk) fun ds rr h => ?_
  unfold G43 at h
  split at h
  · rename_i a b c d a' b' c' d'
    obtain ⟨hp, h⟩ := need_some h
    rw [yes_iff] at hp
    obtain ⟨h1, h2, h3, h4⟩ := hp
    refine (congrArg T.run (t43 a b c d a' b' c' d')).trans ?_
    rw [← h]
    refine go_yes h1 (go_ite (fun e1 => go_yes h2 (go_ite (fun e2 => go_yes h3 (go_ite (fun e3 => go_yes h4 ?_) fun e3 => ?_)) fun e2 => ?_)) fun e1 => ?_)
    · rw [e1, e2, e3]; rfl
    · rw [e1, e2, e3]; rfl
    · rw [e1, e2]; rfl
    · rw [e1]; rfl
  · cases h
theorem ok24 (n : Nat) : FnOK C (n + 1) 24 (mkF s24 G24) := by
  refine fn_ofS hC (sp := sp24) (lp := lp24) (sw := sw24) trivial trivial (by kernel_rfl) [] (by kernel_rfl) rfl (fun k hk => by cases hk) fun ds rr h => ?_
  unfold G24 at h
  split at h
  · rename_i a b c d
    obtain ⟨hp, h⟩ := need_some h
    rw [yes_iff] at hp
    obtain ⟨h1, h2, h3, h4⟩ := hp
    refine (congrArg T.run (t24 a b c d)).trans ?_
    rw [← h, wrap_id (x := (a.L.length : Int) + b.L.length) (by omega) (by omega), wrap_id (x := (a.L.length : Int) + b.L.length + c.L.length) (by omega) (by omega), wrap_id (by omega) (by omega)]
    congr 3
    by_cases e : a.L.length + b.L.length + c.L.length + d.L.length = 0
    · rw [decide_eq_true e]
      have : (a.L.length : Int) + b.L.length + c.L.length + d.L.length = 0 := by omega
      rw [this]; rfl
    · rw [decide_eq_false e]
      have : (a.L.length : Int) + b.L.length + c.L.length + d.L.length ≠ 0 := by omega
      simpa using this
  · cases h
end Go.Proofs.Ytipbcpobnciccaa
namespace Go.Proofs.Ytipbcpobnciccaa
open Go.Lite
theorem fn_mono {C : Cfg} {n : Nat} {f : FuncId} {s : Sig} {G G' : List D → T (List D)} (h : FnOK C n f (mkF s G)) (hg : ∀ ds r, (G' ds).run = some r → (G ds).run = some r) : FnOK C n f (mkF s G') := by
  intro args v hb h1 avs hv
  refine h args v hb ?_ avs hv
  unfold mkF at h1 ⊢
  split at h1
  · rw [T.run_map, Option.map_eq_some_iff] at h1 ⊢
    obtain ⟨r, e1, e2⟩ := h1
    exact ⟨r, hg _ r e1, e2⟩
  · cases h1
def CaseOK (f : FuncId) (ks : List SK) (ds : List D) : Prop :=
  ∃ n sp lp sw, AllOK C n sp ∧ AllOKW C n sw ∧ LoopsOK C (mkTab sp lp sw) n f (bodyAt C.P f) ∧ (fnT C (mkTab sp lp sw) f ⟨ks, [(.k .bool, [])]⟩ ds).run = some [D.b true]
theorem case_of {f : FuncId} {ks : List SK} {ds : List D} {sp : SpL} {lp : LpL} {sw : SwL} (n : Nat) (hsp : AllOK C n sp) (hsw : AllOKW C n sw) (keys : List Nat) (h1 : Lite.loopsIn (bodyAt C.P f) = keys.map (loopOf C.P f)) (h2 : keys.map (fun k => Lite.keyOf (loopOf C.P f k)) = keys)
    (hl : ∀ k ∈ keys, ∀ L, lpOf lp k = some L → LoopSim C n f (loopOf C.P f k) L) (hr : (fnT C (mkTab sp lp sw) f ⟨ks, [(.k .bool, [])]⟩ ds).run = some [D.b true]) : CaseOK f ks ds :=
  ⟨n, sp, lp, sw, hsp, hsw, loops_of keys h1 h2 hl, hr⟩
theorem law_cases {f : FuncId} (hf : hasBody C.P f = true) {ts : List TypeId} {ks : List SK} (hks : ks = ts.map (argSK C.P)) (hfit : ∀ t ∈ ts, argFit C.P t = true) {m : Nat} (hm : (ts.map (kindsN C.P)).sum = m)
    (hrun : ∀ ds : List D, ds.length = m → WfC (ts.flatMap (kindsL C.P)) ds 0 → CaseOK f ks ds) (d : Nat) (xs : List AV) (hx : ArgsShape C.P d ts xs) : ∃ n h', callA C n Unit none f xs [] () = some (.bool true, h', ()) := by
  obtain ⟨ds, hlen, hv, -, hwf⟩ := args_enc C.P d ts xs [] hx hfit
  rw [List.append_nil, ← hks] at hv
  obtain ⟨n, sp, lp, sw, hsp, hsw, hlo, hr⟩ := hrun ds (hlen.trans hm) hwf
  unfold fnT at hr
  rw [T.run_bind, Option.bind_eq_some_iff] at hr
  obtain ⟨⟨v0, h0⟩, hc, hfr⟩ := hr
  rw [T.run_ofO] at hfr
  obtain ⟨fn, h3, h4⟩ := hasBody_spec hf
  obtain ⟨v', h', h5, h6, h7⟩ := call_sim hC (spOK_ofW hsp hsw) h3 h4 hlo _ _ _ hc xs hv
  have h8 := (fitsR_sim hfr h6 h7).1
  refine ⟨n + 1, h', ?_⟩
  rw [h5]
  have : v' = .bool true := h8
  rw [this]
end Go.Proofs.Ytipbcpobnciccaa
namespace Go.Proofs.Ytipbcpobnciccaa
open Go.Lite
noncomputable section
def fndT (c f : Int) (w du cl op ch : List (List D)) (lo n n1 n2 n3 : Int) : Prop := planB c f w = true ∧ carOK w ch ∧ duesOk c f w ch = true ∧ du = rowP c f w ch ∧ cl = clR c f w ch ∧ op = opR c f w ch ∧ lo = 1 ∧ n = w.length + 1 ∧ n1 = w.length ∧ n2 = w.length ∧ n3 = w.length
end
end Go.Proofs.Ytipbcpobnciccaa
namespace Go.Proofs.Ytipbcpobnciccaa
open Go.Lite
set_option maxRecDepth 100000
section
variable {c f : Int} {w du cl op ch : List (List D)} {lo n n1 n2 n3 : Int}
theorem fnd_of (h : fndT c f w du cl op ch lo n n1 n2 n3) : du.length = w.length + 2 ∧ cl.length = w.length ∧ op.length = w.length ∧ ch.length = w.length ∧ du.drop 1 = dueL c f w ch ∧ (dueL c f w ch).length = w.length + 1 ∧
    (∀ j, rg du (j + 1) = rg (dueL c f w ch) j) ∧ (∀ j, j < w.length → rg cl j = rg (dueL c f w ch) j - ix (w.getD j []) 1 ∧ rg op j = rg (dueL c f w ch) j + busyF c (w.getD j [])) ∧ (∀ j, 0 ≤ rg (dueL c f w ch) j ∧ rg (dueL c f w ch) j ≤ 2000000) ∧ solD c f w ch (rg (dueL c f w ch)) ∧ endsD c w ch (rg (dueL c f w ch)) := by
  obtain ⟨hp, hc, hd, rfl, rfl, rfl, -⟩ := h
  obtain ⟨r1, r2, -, -⟩ := row_dues hp hc.1 hd
  obtain ⟨d1, -, d3, d4, -⟩ := due_least (f := f) hp hc.1
  refine ⟨r1.1, len_rowF _ _ _, len_rowF _ _ _, hc.1.1, r2, d1, fun j => ?_, fun j hj => ⟨?_, ?_⟩, fun j => ⟨d3.2.1 j, d4 j⟩, d3, ?_⟩
  · rw [← r2, rg_drop, Nat.add_comm]
  · unfold clR
    rw [rg_rowF hj, Nat.zero_add]
    rfl
  · unfold opR
    rw [rg_rowF hj, Nat.zero_add]
    rfl
  · unfold duesOk at hd
    rw [Bool.and_eq_true, decide_eq_true_eq] at hd
    exact (push_ends hp hc.1).1.1 hd.2
end
end Go.Proofs.Ytipbcpobnciccaa
