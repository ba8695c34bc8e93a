/-
  Shapes of arguments, results and loops. Written by program.
  The law of tyres on roads: its loop.
  Tables. Written by program.
  What the rounds and the functions come to. Written by program.
  The row of the documents' examples holds.
-/
import Derived.Test.YtgoedfonmocafaaGE
import Derived.Test.YtgoedfonmocafaaGB
import Derived.Test.YtgoedfonmocafaaCfg
namespace Go.Proofs.Ytgoedfonmocafaa
open Go.Lite
def s17 : Sig := ⟨[], [(.k .bool, [])]⟩
def s4 : Sig := ⟨[.agg [.k (.ro [.int .i64, .int .i64, .int .i64, .int .i64, .int .i64]), .k (.ro [.int .i64, .int .i64]), .k (.ro [.int .i64, .int .i64, .int .i64])], .agg [.k (.ro [.ro [.int .i64, .int .i64]]), .k (.ro [.ro [.int .i64, .int .i64]]), .k (.ro [.int .i64]), .k (.int .i64)], .k (.int .i64), .k (.int .i64), .k .bool, .k (.int .i64)], [(.k .bool, [])]⟩
def l4_5 : LSig := mkLS [2, 3, 4, 5, 6, 7, 13, 14] [(275, [(2, .k (.int .i64)), (3, .k (.int .i64)), (4, .k .bool), (5, .k (.int .i64)), (6, .ptr 0 3 0 0), (7, .ptr 1 4 0 0), (13, .k (.int .i64)), (14, .k (.int .i64))], [.box [.k (.ro [.int .i64, .int .i64, .int .i64, .int .i64, .int .i64]), .k (.ro [.int .i64, .int .i64]), .k (.ro [.int .i64, .int .i64, .int .i64])], .box [.k (.ro [.ro [.int .i64, .int .i64]]), .k (.ro [.ro [.int .i64, .int .i64]]), .k (.ro [.int .i64]), .k (.int .i64)]])] [(.ret, [12], [(275, [(12, .k .bool)], [])]), (.exit 0, [3, 4, 5, 6, 7, 13], [(275, [(3, .k (.int .i64)), (4, .k .bool), (5, .k (.int .i64)), (6, .ptr 0 3 0 0), (7, .ptr 1 4 0 0), (13, .k (.int .i64))], [.box [.k (.ro [.int .i64, .int .i64, .int .i64, .int .i64, .int .i64]), .k (.ro [.int .i64, .int .i64]), .k (.ro [.int .i64, .int .i64, .int .i64])], .box [.k (.ro [.ro [.int .i64, .int .i64]]), .k (.ro [.ro [.int .i64, .int .i64]]), .k (.ro [.int .i64]), .k (.int .i64)]])])]
end Go.Proofs.Ytgoedfonmocafaa

namespace Go.Proofs.Ytgoedfonmocafaa
open Go.Lite
noncomputable section
def G17 (ds : List D) : T (List D) := match ds with
  | [] => .leaf [.b true]
  | _ => .fail
def G16w (ds : List D) : T (List D) := match ds with
  | [a, b, c, d] => .need (yes (a.L.length < big ∧ b.L.length < big)) (.leaf [.b (compoundOk a.L b.L c.L d.I)])
  | _ => .fail
def soft (p : List (List D)) (j : Nat) : Bool := decide (ix (p.getD j []) 4 ≤ 8)
def G4_5 (ds : List D) : T (Ex × List D) := match ds with
  | [at_, dg, wt, wr, pl, i, p, c, j, a, b, w, l] => .need (yes (p.L.length ≤ 12 ∧ allFrom (pieceAt p.L) 0 p.L.length = true ∧ 1 ≤ at_.I ∧ at_.I ≤ p.L.length ∧ 0 ≤ i.I ∧ i.I ≤ p.L.length ∧ pl.I = lenFrom p.L 0 (min i.I.toNat at_.I.toNat)))
      (.ite (allFrom (soft p.L) i.I.toNat (p.L.length - i.I.toNat)) (.leaf (.exit 0, [.i dg.I, .b wt.B, .i wr.I, .i (lenFrom p.L 0 at_.I.toNat), .l p.L, .l c.L, .l j.L, .l a.L, .l b.L, .l w.L, .i l.I])) (.leaf (.ret, [.b true])))
  | _ => .fail
end
end Go.Proofs.Ytgoedfonmocafaa

namespace Go.Proofs.Ytgoedfonmocafaa
open Go.Lite
noncomputable def sp4 : SpL := [(15, mkF s15 G15), (16, mkF s16 G16w), (17, mkF s17 G17), (18, mkF s18 G18), (19, mkF s19 G19), (20, mkF s20 G20), (22, mkF s22 G22), (21, mkF s21 G21w), (23, mkF s23 G23w)]
noncomputable def lp4 : LpL := [(5, mkL l4_5 G4_5)]
noncomputable def sw4 : SwL := []
noncomputable def tab4 : Tab := mkTab sp4 lp4 sw4
end Go.Proofs.Ytgoedfonmocafaa

namespace Go.Proofs.Ytgoedfonmocafaa
open Go.Lite
set_option linter.unusedVariables false
set_option maxRecDepth 100000
theorem t4 (a b c d e f g h i j k : D) : fnT C tab4 4 s4 [a, b, c, d, e, f, g, h, i, j, k] =
  T.ite (!shortR (D.L a) (D.L b) (D.L c) (1000 : Int)) (T.leaf [D.b true]) (T.ite (decide ((↑(List.length (D.L a)) : Int) > (12 : Int))) (T.leaf [D.b true]) (T.ite ((↑(List.length (D.L d)) : Int) != (8 : Int)) (T.leaf [D.b true]) (T.ite ((↑(List.length (D.L e)) : Int) != (8 : Int)) (T.leaf [D.b true]) (T.need (yes (List.length (D.L d) < big ∧ List.length (D.L e) < big)) (T.ite (!compoundOk (D.L d) (D.L e) (D.L f) (D.I g)) (T.leaf [D.b true]) (T.ite (decide (D.I h < (1 : Int))) (T.leaf [D.b true]) (T.ite (decide (D.I h ≥ (↑(List.length (D.L a)) : Int))) (T.leaf [D.b true]) (T.ite (decide (D.I i < (-40 : Int))) (T.leaf [D.b true]) (T.ite (decide (D.I i > (80 : Int))) (T.leaf [D.b true]) (T.ite (decide (D.I k < (0 : Int))) (T.leaf [D.b true]) (T.ite (decide (D.I k > (1000000 : Int))) (T.leaf [D.b true]) (T.need (yes (List.length (D.L a) ≤ 12 ∧ allFrom (pieceAt (D.L a)) 0 (List.length (D.L a)) = true ∧ (1 : Int) ≤ D.I h ∧ D.I h ≤ (↑(List.length (D.L a)) : Int) ∧ (0 : Int) ≤ (0 : Int) ∧ (0 : Int) ≤ (↑(List.length (D.L a)) : Int) ∧ (0 : Int) = lenFrom (D.L a) 0 (min (Int.toNat (0 : Int)) (Int.toNat (D.I h))))) (T.ite (allFrom (soft (D.L a)) (Int.toNat (0 : Int)) (List.length (D.L a) - Int.toNat (0 : Int))) (T.need (yes (roadP (D.L a) (D.L b) (D.L c) ∧ (0 : Int) ≤ (0 : Int) ∧ (0 : Int) < lenFrom (D.L a) 0 (Int.toNat (D.I h)) ∧ lenFrom (D.L a) 0 (Int.toNat (D.I h)) ≤ lenR (D.L a))) (T.need (yes (List.length (D.L a) ≤ 2000 ∧ allFrom (pieceAt (D.L a)) 0 (List.length (D.L a)) = true)) (T.need (yes (roadP (D.L a) (D.L b) (D.L c) ∧ (0 : Int) ≤ lenFrom (D.L a) 0 (Int.toNat (D.I h)) ∧ lenFrom (D.L a) 0 (Int.toNat (D.I h)) < lenR (D.L a) ∧ lenR (D.L a) ≤ lenR (D.L a))) (T.need (yes (roadP (D.L a) (D.L b) (D.L c))) (T.ite false (T.leaf [D.b false]) (T.ite false (T.leaf [D.b false]) (T.ite false (T.leaf [D.b false]) (T.need (yes (List.length (D.L a) ≤ 2000)) (T.need (yes (lossPre (D.L d) (D.L e) (D.L f) (D.I g) (lpL (D.I i) (D.B j) (D.L a)) (D.I k))) (T.need (yes (List.length (partY (0 : Int) (lenFrom (D.L a) 0 (Int.toNat (D.I h))) (yldP (D.L a) 0 (List.length (D.L a)) (0 : Int))) ≤ 2000)) (T.need (yes (lossPre (D.L d) (D.L e) (D.L f) (D.I g) (lpL (D.I i) (D.B j) (partY (0 : Int) (lenFrom (D.L a) 0 (Int.toNat (D.I h))) (yldP (D.L a) 0 (List.length (D.L a)) (0 : Int)))) (D.I k))) (T.need (yes (List.length (partY (lenFrom (D.L a) 0 (Int.toNat (D.I h))) (lenR (D.L a)) (yldP (D.L a) 0 (List.length (D.L a)) (0 : Int))) ≤ 2000)) (T.need (yes (lossPre (D.L d) (D.L e) (D.L f) (D.I g) (lpL (D.I i) (D.B j) (partY (lenFrom (D.L a) 0 (Int.toNat (D.I h))) (lenR (D.L a)) (yldP (D.L a) 0 (List.length (D.L a)) (0 : Int)))) (drive (D.L d) (D.L e) (D.L f) (D.I g) (lpL (D.I i) (D.B j) (partY (0 : Int) (lenFrom (D.L a) 0 (Int.toNat (D.I h))) (yldP (D.L a) 0 (List.length (D.L a)) (0 : Int)))) (D.I k)).fst)) (T.need (yes (List.length (turnR (D.L a)) ≤ 2000)) (T.need (yes (lossPre (D.L d) (D.L e) (D.L f) (D.I g) (lpL (D.I i) (D.B j) (turnR (D.L a))) (drive (D.L d) (D.L e) (D.L f) (D.I g) (lpL (D.I i) (D.B j) (D.L a)) (D.I k)).fst)) (T.need (yes (List.length (D.L a) ≤ 2000)) (T.need (yes (lossPre (D.L d) (D.L e) (D.L f) (D.I g) (lpL (D.I i) (D.B j) (D.L a)) (drive (D.L d) (D.L e) (D.L f) (D.I g) (lpL (D.I i) (D.B j) (D.L a)) (D.I k)).fst)) (T.need (yes (List.length (D.L a) ≤ 2000)) (T.need (yes (lossPre (D.L d) (D.L e) (D.L f) (D.I g) (lpL (D.I i) (D.B j) (D.L a)) (D.I k))) (T.need (yes (List.length (partY (0 : Int) (lenFrom (D.L a) 0 (Int.toNat (D.I h))) (yldP (D.L a) 0 (List.length (D.L a)) (0 : Int))) ≤ 2000)) (T.need (yes (lossPre (D.L d) (D.L e) (D.L f) (D.I g) (lpL (D.I i) (D.B j) (partY (0 : Int) (lenFrom (D.L a) 0 (Int.toNat (D.I h))) (yldP (D.L a) 0 (List.length (D.L a)) (0 : Int)))) (D.I k))) (T.ite false (T.leaf [D.b false]) (T.ite false (T.leaf [D.b false]) (T.ite false (T.leaf [D.b false]) (T.ite false (T.leaf [D.b false]) (T.ite false (T.leaf [D.b false]) (T.ite false (T.leaf [D.b false]) (T.ite false (T.leaf [D.b false]) (T.ite ((drive (D.L d) (D.L e) (D.L f) (D.I g) (lpL (D.I i) (D.B j) (D.L a)) (D.I k)).snd.fst == IntKind.wrap IntKind.i64 ((drive (D.L d) (D.L e) (D.L f) (D.I g) (lpL (D.I i) (D.B j) (partY (0 : Int) (lenFrom (D.L a) 0 (Int.toNat (D.I h))) (yldP (D.L a) 0 (List.length (D.L a)) (0 : Int)))) (D.I k)).snd.fst + (drive (D.L d) (D.L e) (D.L f) (D.I g) (lpL (D.I i) (D.B j) (partY (lenFrom (D.L a) 0 (Int.toNat (D.I h))) (lenR (D.L a)) (yldP (D.L a) 0 (List.length (D.L a)) (0 : Int)))) (drive (D.L d) (D.L e) (D.L f) (D.I g) (lpL (D.I i) (D.B j) (partY (0 : Int) (lenFrom (D.L a) 0 (Int.toNat (D.I h))) (yldP (D.L a) 0 (List.length (D.L a)) (0 : Int)))) (D.I k)).fst).snd.fst)) (T.ite ((drive (D.L d) (D.L e) (D.L f) (D.I g) (lpL (D.I i) (D.B j) (D.L a)) (D.I k)).fst == (drive (D.L d) (D.L e) (D.L f) (D.I g) (lpL (D.I i) (D.B j) (partY (lenFrom (D.L a) 0 (Int.toNat (D.I h))) (lenR (D.L a)) (yldP (D.L a) 0 (List.length (D.L a)) (0 : Int)))) (drive (D.L d) (D.L e) (D.L f) (D.I g) (lpL (D.I i) (D.B j) (partY (0 : Int) (lenFrom (D.L a) 0 (Int.toNat (D.I h))) (yldP (D.L a) 0 (List.length (D.L a)) (0 : Int)))) (D.I k)).fst).fst) (T.ite ((drive (D.L d) (D.L e) (D.L f) (D.I g) (lpL (D.I i) (D.B j) (turnR (D.L a))) (drive (D.L d) (D.L e) (D.L f) (D.I g) (lpL (D.I i) (D.B j) (D.L a)) (D.I k)).fst).fst == (drive (D.L d) (D.L e) (D.L f) (D.I g) (lpL (D.I i) (D.B j) (D.L a)) (drive (D.L d) (D.L e) (D.L f) (D.I g) (lpL (D.I i) (D.B j) (D.L a)) (D.I k)).fst).fst) (T.ite (!(drive (D.L d) (D.L e) (D.L f) (D.I g) (lpL (D.I i) (D.B j) (D.L a)) (D.I k)).snd.snd) (T.leaf [D.b true]) (T.ite (drive (D.L d) (D.L e) (D.L f) (D.I g) (lpL (D.I i) (D.B j) (partY (0 : Int) (lenFrom (D.L a) 0 (Int.toNat (D.I h))) (yldP (D.L a) 0 (List.length (D.L a)) (0 : Int)))) (D.I k)).snd.snd (T.leaf [D.b true]) (T.leaf [D.b false]))) (T.leaf [D.b false])) (T.leaf [D.b false])) (T.leaf [D.b false])))))))))))))))))))))))))))))) (T.leaf [D.b true])))))))))))))) := by kernel_rfl
theorem t4_5 (a b c d e f g h i j k l m : D) : roundT C tab4 4 (loopOf C.P 4 5) l4_5 [a, b, c, d, e, f, g, h, i, j, k, l, m] =
  T.ite (decide (D.I f < (↑(List.length (D.L g)) : Int))) (T.need (decide ((0 : Int) ≤ D.I f ∧ D.I f < (↑(List.length (D.L g)) : Int))) (T.ite (decide (D.I (List.getD (List.getD (D.L g) (Int.toNat (D.I f)) []) (0 + 1 + 1 + 1 + 1) default) > (8 : Int))) (T.leaf (Rd.out Ex.ret [D.b true])) (T.ite (decide (D.I f < D.I a)) (T.need (decide ((0 : Int) ≤ D.I f ∧ D.I f < (↑(List.length (D.L g)) : Int))) (T.leaf (Rd.again [D.i (D.I a), D.i (D.I b), D.b (D.B c), D.i (D.I d), D.i (IntKind.wrap IntKind.i64 (D.I e + D.I (List.getD (List.getD (D.L g) (Int.toNat (D.I f)) []) 0 default))), D.i (IntKind.wrap IntKind.i64 (D.I f + (1 : Int))), D.l (D.L g), D.l (D.L h), D.l (D.L i), D.l (D.L j), D.l (D.L k), D.l (D.L l), D.i (D.I m)]))) (T.leaf (Rd.again [D.i (D.I a), D.i (D.I b), D.b (D.B c), D.i (D.I d), D.i (D.I e), D.i (IntKind.wrap IntKind.i64 (D.I f + (1 : Int))), D.l (D.L g), D.l (D.L h), D.l (D.L i), D.l (D.L j), D.l (D.L k), D.l (D.L l), D.i (D.I m)]))))) (T.leaf (Rd.out (Ex.exit 0) [D.i (D.I b), D.b (D.B c), D.i (D.I d), D.i (D.I e), D.l (D.L g), D.l (D.L h), D.l (D.L i), D.l (D.L j), D.l (D.L k), D.l (D.L l), D.i (D.I m)])) := by kernel_rfl
end Go.Proofs.Ytgoedfonmocafaa

namespace Go.Proofs.Ytgoedfonmocafaa
open Go.Lite
theorem known0 : callA C 12 Unit none 17 [] [] () = some (.bool true, [], ()) := by kernel_rfl
end Go.Proofs.Ytgoedfonmocafaa
