/-
  What the claim top_fuelled rests on, part 7.
-/
import Derived.Test.YtgoedfonmocafaaZ6
namespace Go.Proofs.Ytgoedfonmocafaa
open Go.Lite
set_option linter.unusedVariables false
set_option maxRecDepth 100000
theorem t3 (a b c d e f g h i j k l : D) : fnT C tab3 3 s3 [a, b, c, d, e, f, g, h, i, j, k, l] =
  T.ite (!(roadOk a.L b.L c.L && decide (lenR a.L ≤ (120 : Int)))) (T.leaf [D.b true]) (T.ite (!speedsOk d.I e.I f.L g.L) (T.leaf [D.b true]) (T.ite (decide ((h.L.length : Int) > (7 : Int))) (T.leaf [D.b true]) (T.need (yes (manyP a.L ∧ lenR a.L ≤ (120 : Int) ∧ h.L.length ≤ 7 ∧ (0 : Int) ≤ (0 : Int) ∧ (0 : Int) ≤ (h.L.length : Int) ∧ (↑(List.length [[D.i 0]]) : Int) = (0 : Int) + (1 : Int) ∧ [[D.i 0]] = plF h.L (Int.toNat (0 : Int)))) (T.ite (allFrom (cutAt h.L (lenR a.L)) (Int.toNat (0 : Int)) (h.L.length - Int.toNat (0 : Int))) (T.need (yes (a.L.length ≤ 2000 ∧ allFrom (pieceAt a.L) 0 a.L.length = true)) (T.need true (T.ite false (T.need (yes ((↑0 : Int) = (0 : Int) ∧ paceP d.I e.I f.L g.L a.L b.L c.L ∧ plOk (lenR a.L) (plF h.L h.L.length) ∧ (↑(Int.toNat (↑(h.L.length + 1) : Int)) : Int) = (↑(List.length (plF h.L h.L.length)) : Int) ∧ (0 : Int) = (0 : Int) ∧ 2 ≤ List.length (plF h.L h.L.length))) (T.need (decide (Int.toNat (↑(List.length (plF h.L h.L.length) - 1) : Int) ≤ List.length (legsF d.I e.I f.L g.L a.L j.L (plF h.L h.L.length) (List.length (plF h.L h.L.length) - 1)))) (T.ite (!tankOk k.I l.I l.I (List.take (Int.toNat (↑(List.length (plF h.L h.L.length) - 1) : Int)) (legsF d.I e.I f.L g.L a.L j.L (plF h.L h.L.length) (List.length (plF h.L h.L.length) - 1)))) (T.leaf [D.b true]) (T.need (decide (Int.toNat (↑(List.length (plF h.L h.L.length) - 1) : Int) ≤ List.length (legsF d.I e.I f.L g.L a.L j.L (plF h.L h.L.length) (List.length (plF h.L h.L.length) - 1)))) (T.need (yes (tankP k.I l.I l.I (List.take (Int.toNat (↑(List.length (plF h.L h.L.length) - 1) : Int)) (legsF d.I e.I f.L g.L a.L j.L (plF h.L h.L.length) (List.length (plF h.L h.L.length) - 1))))) (T.ite (fuelOk k.I l.I l.I (List.take (Int.toNat (↑(List.length (plF h.L h.L.length) - 1) : Int)) (legsF d.I e.I f.L g.L a.L j.L (plF h.L h.L.length) (List.length (plF h.L h.L.length) - 1)))) (T.ite false (T.ite false (T.leaf [D.b true]) (T.leaf [D.b false])) (T.ite ((↑(Int.toNat (↑(List.length (List.take (Int.toNat (↑(List.length (plF h.L h.L.length) - 1) : Int)) (legsF d.I e.I f.L g.L a.L j.L (plF h.L h.L.length) (List.length (plF h.L h.L.length) - 1)))) : Int)) : Int) != (↑(Int.toNat (↑(List.length (plF h.L h.L.length) - 1) : Int)) : Int)) (T.leaf [D.b false]) (T.need (yes ((paceP d.I e.I f.L g.L a.L b.L c.L ∧ plOk (lenR a.L) (plF h.L h.L.length)) ∧ ((↑(Int.toNat (↑(List.length (plF h.L h.L.length)) : Int)) : Int) = (↑(List.length (plF h.L h.L.length)) : Int) ∧ (↑(Int.toNat (↑(List.length (plF h.L h.L.length) - 1) : Int)) : Int) = (↑(List.length (legsF d.I e.I f.L g.L a.L j.L (plF h.L h.L.length) (List.length (plF h.L h.L.length) - 1))) : Int) ∧ (↑(Int.toNat (↑(List.length (List.take (Int.toNat (↑(List.length (plF h.L h.L.length) - 1) : Int)) (legsF d.I e.I f.L g.L a.L j.L (plF h.L h.L.length) (List.length (plF h.L h.L.length) - 1)))) : Int)) : Int) = (↑(List.length (outs (List.take (Int.toNat (↑(List.length (plF h.L h.L.length) - 1) : Int)) (legsF d.I e.I f.L g.L a.L j.L (plF h.L h.L.length) (List.length (plF h.L h.L.length) - 1))) l.I l.I)) : Int)) ∧ (∃ fi, legsF d.I e.I f.L g.L a.L j.L (plF h.L h.L.length) (List.length (plF h.L h.L.length) - 1) = legsF d.I e.I f.L g.L a.L fi (plF h.L h.L.length) (List.length (legsF d.I e.I f.L g.L a.L j.L (plF h.L h.L.length) (List.length (plF h.L h.L.length) - 1)))) ∧ List.length (legsF d.I e.I f.L g.L a.L j.L (plF h.L h.L.length) (List.length (plF h.L h.L.length) - 1)) + 1 = List.length (plF h.L h.L.length) ∧ amP (legsF d.I e.I f.L g.L a.L j.L (plF h.L h.L.length) (List.length (plF h.L h.L.length) - 1)) (outs (List.take (Int.toNat (↑(List.length (plF h.L h.L.length) - 1) : Int)) (legsF d.I e.I f.L g.L a.L j.L (plF h.L h.L.length) (List.length (plF h.L h.L.length) - 1))) l.I l.I) ∧ ((0 : Int) ≤ l.I ∧ k.I ≤ (1000000 : Int)) ∧ (0 : Int) ≤ (0 : Int) ∧ (0 : Int) ≤ (↑(List.length (legsF d.I e.I f.L g.L a.L j.L (plF h.L h.L.length) (List.length (plF h.L h.L.length) - 1))) : Int) ∧ levP k.I l.I (legsF d.I e.I f.L g.L a.L j.L (plF h.L h.L.length) (List.length (plF h.L h.L.length) - 1)) (outs (List.take (Int.toNat (↑(List.length (plF h.L h.L.length) - 1) : Int)) (legsF d.I e.I f.L g.L a.L j.L (plF h.L h.L.length) (List.length (plF h.L h.L.length) - 1))) l.I l.I) (Int.toNat (0 : Int)) l.I)) (T.leaf [D.b true])))) (T.ite true (T.ite true (T.leaf [D.b true]) (T.leaf [D.b false])) (T.ite ((↑0 : Int) != (↑(Int.toNat (↑(List.length (plF h.L h.L.length) - 1) : Int)) : Int)) (T.leaf [D.b false]) T.fail)))))))) (T.need (decide (Int.toNat (↑(h.L.length + 1) : Int) ≤ List.length (plF h.L h.L.length) ∧ Int.toNat (↑(h.L.length + 1) : Int) + 1 ≤ 2 ^ 62 ∧ (Int.toNat (↑(h.L.length + 1) : Int) + 1) * Try.prog.types[3].bytes ≤ 2 ^ 47)) (T.need (yes ((↑0 : Int) = (0 : Int) ∧ paceP d.I e.I f.L g.L a.L b.L c.L ∧ plOk (lenR a.L) (List.take (Int.toNat (↑(h.L.length + 1) : Int)) (plF h.L h.L.length) ++ List.take (List.length [[D.i (lenR a.L)]]) [[D.i (lenR a.L)]]) ∧ (↑(Int.toNat (↑(h.L.length + 1) : Int) + 1) : Int) = (↑(List.length (List.take (Int.toNat (↑(h.L.length + 1) : Int)) (plF h.L h.L.length) ++ List.take (List.length [[D.i (lenR a.L)]]) [[D.i (lenR a.L)]])) : Int) ∧ (0 : Int) = (0 : Int) ∧ 2 ≤ List.length (List.take (Int.toNat (↑(h.L.length + 1) : Int)) (plF h.L h.L.length) ++ List.take (List.length [[D.i (lenR a.L)]]) [[D.i (lenR a.L)]]))) (T.need (decide (Int.toNat (↑(List.length (List.take (Int.toNat (↑(h.L.length + 1) : Int)) (plF h.L h.L.length) ++ List.take (List.length [[D.i (lenR a.L)]]) [[D.i (lenR a.L)]]) - 1) : Int) ≤ List.length (legsF d.I e.I f.L g.L a.L j.L (List.take (Int.toNat (↑(h.L.length + 1) : Int)) (plF h.L h.L.length) ++ List.take (List.length [[D.i (lenR a.L)]]) [[D.i (lenR a.L)]]) (List.length (List.take (Int.toNat (↑(h.L.length + 1) : Int)) (plF h.L h.L.length) ++ List.take (List.length [[D.i (lenR a.L)]]) [[D.i (lenR a.L)]]) - 1)))) (T.ite (!tankOk k.I l.I l.I (List.take (Int.toNat (↑(List.length (List.take (Int.toNat (↑(h.L.length + 1) : Int)) (plF h.L h.L.length) ++ List.take (List.length [[D.i (lenR a.L)]]) [[D.i (lenR a.L)]]) - 1) : Int)) (legsF d.I e.I f.L g.L a.L j.L (List.take (Int.toNat (↑(h.L.length + 1) : Int)) (plF h.L h.L.length) ++ List.take (List.length [[D.i (lenR a.L)]]) [[D.i (lenR a.L)]]) (List.length (List.take (Int.toNat (↑(h.L.length + 1) : Int)) (plF h.L h.L.length) ++ List.take (List.length [[D.i (lenR a.L)]]) [[D.i (lenR a.L)]]) - 1)))) (T.leaf [D.b true]) (T.need (decide (Int.toNat (↑(List.length (List.take (Int.toNat (↑(h.L.length + 1) : Int)) (plF h.L h.L.length) ++ List.take (List.length [[D.i (lenR a.L)]]) [[D.i (lenR a.L)]]) - 1) : Int) ≤ List.length (legsF d.I e.I f.L g.L a.L j.L (List.take (Int.toNat (↑(h.L.length + 1) : Int)) (plF h.L h.L.length) ++ List.take (List.length [[D.i (lenR a.L)]]) [[D.i (lenR a.L)]]) (List.length (List.take (Int.toNat (↑(h.L.length + 1) : Int)) (plF h.L h.L.length) ++ List.take (List.length [[D.i (lenR a.L)]]) [[D.i (lenR a.L)]]) - 1)))) (T.need (yes (tankP k.I l.I l.I (List.take (Int.toNat (↑(List.length (List.take (Int.toNat (↑(h.L.length + 1) : Int)) (plF h.L h.L.length) ++ List.take (List.length [[D.i (lenR a.L)]]) [[D.i (lenR a.L)]]) - 1) : Int)) (legsF d.I e.I f.L g.L a.L j.L (List.take (Int.toNat (↑(h.L.length + 1) : Int)) (plF h.L h.L.length) ++ List.take (List.length [[D.i (lenR a.L)]]) [[D.i (lenR a.L)]]) (List.length (List.take (Int.toNat (↑(h.L.length + 1) : Int)) (plF h.L h.L.length) ++ List.take (List.length [[D.i (lenR a.L)]]) [[D.i (lenR a.L)]]) - 1))))) (T.ite (fuelOk k.I l.I l.I (List.take (Int.toNat (↑(List.length (List.take (Int.toNat (↑(h.L.length + 1) : Int)) (plF h.L h.L.length) ++ List.take (List.length [[D.i (lenR a.L)]]) [[D.i (lenR a.L)]]) - 1) : Int)) (legsF d.I e.I f.L g.L a.L j.L (List.take (Int.toNat (↑(h.L.length + 1) : Int)) (plF h.L h.L.length) ++ List.take (List.length [[D.i (lenR a.L)]]) [[D.i (lenR a.L)]]) (List.length (List.take (Int.toNat (↑(h.L.length + 1) : Int)) (plF h.L h.L.length) ++ List.take (List.length [[D.i (lenR a.L)]]) [[D.i (lenR a.L)]]) - 1)))) (T.ite false (T.ite false (T.leaf [D.b true]) (T.leaf [D.b false])) (T.ite ((↑(Int.toNat (↑(List.length (List.take (Int.toNat (↑(List.length (List.take (Int.toNat (↑(h.L.length + 1) : Int)) (plF h.L h.L.length) ++ List.take (List.length [[D.i (lenR a.L)]]) [[D.i (lenR a.L)]]) - 1) : Int)) (legsF d.I e.I f.L g.L a.L j.L (List.take (Int.toNat (↑(h.L.length + 1) : Int)) (plF h.L h.L.length) ++ List.take (List.length [[D.i (lenR a.L)]]) [[D.i (lenR a.L)]]) (List.length (List.take (Int.toNat (↑(h.L.length + 1) : Int)) (plF h.L h.L.length) ++ List.take (List.length [[D.i (lenR a.L)]]) [[D.i (lenR a.L)]]) - 1)))) : Int)) : Int) != (↑(Int.toNat (↑(List.length (List.take (Int.toNat (↑(h.L.length + 1) : Int)) (plF h.L h.L.length) ++ List.take (List.length [[D.i (lenR a.L)]]) [[D.i (lenR a.L)]]) - 1) : Int)) : Int)) (T.leaf [D.b false]) (T.need (yes ((paceP d.I e.I f.L g.L a.L b.L c.L ∧ plOk (lenR a.L) (List.take (Int.toNat (↑(h.L.length + 1) : Int)) (plF h.L h.L.length) ++ List.take (List.length [[D.i (lenR a.L)]]) [[D.i (lenR a.L)]])) ∧ ((↑(Int.toNat (↑(List.length (List.take (Int.toNat (↑(h.L.length + 1) : Int)) (plF h.L h.L.length) ++ List.take (List.length [[D.i (lenR a.L)]]) [[D.i (lenR a.L)]])) : Int)) : Int) = (↑(List.length (List.take (Int.toNat (↑(h.L.length + 1) : Int)) (plF h.L h.L.length) ++ List.take (List.length [[D.i (lenR a.L)]]) [[D.i (lenR a.L)]])) : Int) ∧ (↑(Int.toNat (↑(List.length (List.take (Int.toNat (↑(h.L.length + 1) : Int)) (plF h.L h.L.length) ++ List.take (List.length [[D.i (lenR a.L)]]) [[D.i (lenR a.L)]]) - 1) : Int)) : Int) = (↑(List.length (legsF d.I e.I f.L g.L a.L j.L (List.take (Int.toNat (↑(h.L.length + 1) : Int)) (plF h.L h.L.length) ++ List.take (List.length [[D.i (lenR a.L)]]) [[D.i (lenR a.L)]]) (List.length (List.take (Int.toNat (↑(h.L.length + 1) : Int)) (plF h.L h.L.length) ++ List.take (List.length [[D.i (lenR a.L)]]) [[D.i (lenR a.L)]]) - 1))) : Int) ∧ (↑(Int.toNat (↑(List.length (List.take (Int.toNat (↑(List.length (List.take (Int.toNat (↑(h.L.length + 1) : Int)) (plF h.L h.L.length) ++ List.take (List.length [[D.i (lenR a.L)]]) [[D.i (lenR a.L)]]) - 1) : Int)) (legsF d.I e.I f.L g.L a.L j.L (List.take (Int.toNat (↑(h.L.length + 1) : Int)) (plF h.L h.L.length) ++ List.take (List.length [[D.i (lenR a.L)]]) [[D.i (lenR a.L)]]) (List.length (List.take (Int.toNat (↑(h.L.length + 1) : Int)) (plF h.L h.L.length) ++ List.take (List.length [[D.i (lenR a.L)]]) [[D.i (lenR a.L)]]) - 1)))) : Int)) : Int) = (↑(List.length (outs (List.take (Int.toNat (↑(List.length (List.take (Int.toNat (↑(h.L.length + 1) : Int)) (plF h.L h.L.length) ++ List.take (List.length [[D.i (lenR a.L)]]) [[D.i (lenR a.L)]]) - 1) : Int)) (legsF d.I e.I f.L g.L a.L j.L (List.take (Int.toNat (↑(h.L.length + 1) : Int)) (plF h.L h.L.length) ++ List.take (List.length [[D.i (lenR a.L)]]) [[D.i (lenR a.L)]]) (List.length (List.take (Int.toNat (↑(h.L.length + 1) : Int)) (plF h.L h.L.length) ++ List.take (List.length [[D.i (lenR a.L)]]) [[D.i (lenR a.L)]]) - 1))) l.I l.I)) : Int)) ∧ (∃ fi, legsF d.I e.I f.L g.L a.L j.L (List.take (Int.toNat (↑(h.L.length + 1) : Int)) (plF h.L h.L.length) ++ List.take (List.length [[D.i (lenR a.L)]]) [[D.i (lenR a.L)]]) (List.length (List.take (Int.toNat (↑(h.L.length + 1) : Int)) (plF h.L h.L.length) ++ List.take (List.length [[D.i (lenR a.L)]]) [[D.i (lenR a.L)]]) - 1) = legsF d.I e.I f.L g.L a.L fi (List.take (Int.toNat (↑(h.L.length + 1) : Int)) (plF h.L h.L.length) ++ List.take (List.length [[D.i (lenR a.L)]]) [[D.i (lenR a.L)]]) (List.length (legsF d.I e.I f.L g.L a.L j.L (List.take (Int.toNat (↑(h.L.length + 1) : Int)) (plF h.L h.L.length) ++ List.take (List.length [[D.i (lenR a.L)]]) [[D.i (lenR a.L)]]) (List.length (List.take (Int.toNat (↑(h.L.length + 1) : Int)) (plF h.L h.L.length) ++ List.take (List.length [[D.i (lenR a.L)]]) [[D.i (lenR a.L)]]) - 1)))) ∧ List.length (legsF d.I e.I f.L g.L a.L j.L (List.take (Int.toNat (↑(h.L.length + 1) : Int)) (plF h.L h.L.length) ++ List.take (List.length [[D.i (lenR a.L)]]) [[D.i (lenR a.L)]]) (List.length (List.take (Int.toNat (↑(h.L.length + 1) : Int)) (plF h.L h.L.length) ++ List.take (List.length [[D.i (lenR a.L)]]) [[D.i (lenR a.L)]]) - 1)) + 1 = List.length (List.take (Int.toNat (↑(h.L.length + 1) : Int)) (plF h.L h.L.length) ++ List.take (List.length [[D.i (lenR a.L)]]) [[D.i (lenR a.L)]]) ∧ amP (legsF d.I e.I f.L g.L a.L j.L (List.take (Int.toNat (↑(h.L.length + 1) : Int)) (plF h.L h.L.length) ++ List.take (List.length [[D.i (lenR a.L)]]) [[D.i (lenR a.L)]]) (List.length (List.take (Int.toNat (↑(h.L.length + 1) : Int)) (plF h.L h.L.length) ++ List.take (List.length [[D.i (lenR a.L)]]) [[D.i (lenR a.L)]]) - 1)) (outs (List.take (Int.toNat (↑(List.length (List.take (Int.toNat (↑(h.L.length + 1) : Int)) (plF h.L h.L.length) ++ List.take (List.length [[D.i (lenR a.L)]]) [[D.i (lenR a.L)]]) - 1) : Int)) (legsF d.I e.I f.L g.L a.L j.L (List.take (Int.toNat (↑(h.L.length + 1) : Int)) (plF h.L h.L.length) ++ List.take (List.length [[D.i (lenR a.L)]]) [[D.i (lenR a.L)]]) (List.length (List.take (Int.toNat (↑(h.L.length + 1) : Int)) (plF h.L h.L.length) ++ List.take (List.length [[D.i (lenR a.L)]]) [[D.i (lenR a.L)]]) - 1))) l.I l.I) ∧ ((0 : Int) ≤ l.I ∧ k.I ≤ (1000000 : Int)) ∧ (0 : Int) ≤ (0 : Int) ∧ (0 : Int) ≤ (↑(List.length (legsF d.I e.I f.L g.L a.L j.L (List.take (Int.toNat (↑(h.L.length + 1) : Int)) (plF h.L h.L.length) ++ List.take (List.length [[D.i (lenR a.L)]]) [[D.i (lenR a.L)]]) (List.length (List.take (Int.toNat (↑(h.L.length + 1) : Int)) (plF h.L h.L.length) ++ List.take (List.length [[D.i (lenR a.L)]]) [[D.i (lenR a.L)]]) - 1))) : Int) ∧ levP k.I l.I (legsF d.I e.I f.L g.L a.L j.L (List.take (Int.toNat (↑(h.L.length + 1) : Int)) (plF h.L h.L.length) ++ List.take (List.length [[D.i (lenR a.L)]]) [[D.i (lenR a.L)]]) (List.length (List.take (Int.toNat (↑(h.L.length + 1) : Int)) (plF h.L h.L.length) ++ List.take (List.length [[D.i (lenR a.L)]]) [[D.i (lenR a.L)]]) - 1)) (outs (List.take (Int.toNat (↑(List.length (List.take (Int.toNat (↑(h.L.length + 1) : Int)) (plF h.L h.L.length) ++ List.take (List.length [[D.i (lenR a.L)]]) [[D.i (lenR a.L)]]) - 1) : Int)) (legsF d.I e.I f.L g.L a.L j.L (List.take (Int.toNat (↑(h.L.length + 1) : Int)) (plF h.L h.L.length) ++ List.take (List.length [[D.i (lenR a.L)]]) [[D.i (lenR a.L)]]) (List.length (List.take (Int.toNat (↑(h.L.length + 1) : Int)) (plF h.L h.L.length) ++ List.take (List.length [[D.i (lenR a.L)]]) [[D.i (lenR a.L)]]) - 1))) l.I l.I) (Int.toNat (0 : Int)) l.I)) (T.leaf [D.b true])))) (T.ite true (T.ite true (T.leaf [D.b true]) (T.leaf [D.b false])) (T.ite ((↑0 : Int) != (↑(Int.toNat (↑(List.length (List.take (Int.toNat (↑(h.L.length + 1) : Int)) (plF h.L h.L.length) ++ List.take (List.length [[D.i (lenR a.L)]]) [[D.i (lenR a.L)]]) - 1) : Int)) : Int)) (T.leaf [D.b false]) T.fail)))))))))))) (T.leaf [D.b true]))))) := by kernel_rfl
theorem t3_5 (a b c d e f g h i j k l m n o : D) : roundT C tab3 3 (loopOf C.P 3 5) l3_5 [a, b, c, d, e, f, g, h, i, j, k, l, m, n, o] =
  T.ite (decide (g.I < (a.L.length : Int))) (T.need (decide ((0 : Int) ≤ g.I ∧ g.I < (a.L.length : Int))) (T.need (decide ((0 : Int) ≤ g.I ∧ g.I < (f.I.toNat : Int))) (T.need (decide (g.I.toNat < o.L.length)) (T.ite (decide (D.I (List.getD (List.getD a.L g.I.toNat []) 0 default) > D.I (List.getD (List.getD o.L g.I.toNat []) 0 default))) (T.need (decide ((0 : Int) ≤ g.I ∧ g.I < (a.L.length : Int))) (T.need (yes (h.L.length ≤ 2000 ∧ allFrom (pieceAt h.L) 0 h.L.length = true)) (T.ite (decide (D.I (List.getD (List.getD a.L g.I.toNat []) 0 default) < lenR h.L)) (T.need (decide ((0 : Int) ≤ g.I ∧ g.I < (a.L.length : Int))) (T.need true (T.ite false (T.leaf (Rd.again [D.l a.L, D.l b.L, D.l c.L, D.i d.I, D.i e.I, D.i (f.I.toNat : Int), D.i (IntKind.wrap IntKind.i64 (g.I + (1 : Int))), D.l h.L, D.l i.L, D.l j.L, D.i k.I, D.i l.I, D.l m.L, D.l n.L, D.l o.L])) (T.need (decide (f.I.toNat ≤ o.L.length ∧ f.I.toNat + 1 ≤ 2 ^ 62 ∧ (f.I.toNat + 1) * Try.prog.types[3].bytes ≤ 2 ^ 47)) (T.leaf (Rd.again [D.l a.L, D.l b.L, D.l c.L, D.i d.I, D.i e.I, D.i (↑(f.I.toNat + 1) : Int), D.i (IntKind.wrap IntKind.i64 (g.I + (1 : Int))), D.l h.L, D.l i.L, D.l j.L, D.i k.I, D.i l.I, D.l m.L, D.l n.L, D.l (List.take f.I.toNat o.L ++ List.take (List.length [[D.i (D.I (List.getD (List.getD a.L g.I.toNat []) 0 default))]]) [[D.i (D.I (List.getD (List.getD a.L g.I.toNat []) 0 default))]])])))))) (T.leaf (Rd.out Ex.ret [D.b true]))))) (T.leaf (Rd.out Ex.ret [D.b true])))))) (T.leaf (Rd.out (Ex.exit 0) [D.l b.L, D.l c.L, D.i d.I, D.i e.I, D.i (f.I.toNat : Int), D.l h.L, D.l i.L, D.l j.L, D.i k.I, D.i l.I, D.l m.L, D.l n.L, D.l o.L])) := by kernel_rfl
theorem t3_13_0 (a b c d e f g h i j k l m n : D) : roundT C tab3 3 (loopOf C.P 3 13) l3_13 [.i 0, a, b, c, d, e, f, g, h, i, j, k, l, m, n] =
  T.ite (decide (IntKind.wrap IntKind.i64 (f.I + (1 : Int)) < (e.I.toNat : Int))) (T.need (decide ((0 : Int) ≤ f.I ∧ f.I < (e.I.toNat : Int))) (T.need (decide (f.I.toNat < n.L.length)) (T.need (decide ((0 : Int) ≤ IntKind.wrap IntKind.i64 (f.I + (1 : Int)) ∧ IntKind.wrap IntKind.i64 (f.I + (1 : Int)) < (e.I.toNat : Int))) (T.need (decide (Int.toNat (IntKind.wrap IntKind.i64 (f.I + (1 : Int))) < n.L.length)) (T.need (yes (betwB j.I k.I l.L m.L g.L h.L i.L (D.I (List.getD (List.getD n.L f.I.toNat []) 0 default)) (D.I (List.getD (List.getD n.L (Int.toNat (IntKind.wrap IntKind.i64 (f.I + (1 : Int)))) []) 0 default)) = true)) (T.ite false (T.leaf (Rd.out Ex.ret [D.b false])) (T.need true (T.need true (T.ite (decide (f.I < (b.L.length : Int))) (T.need (decide ((0 : Int) ≤ f.I ∧ f.I < (b.L.length : Int))) (T.need true (T.ite false (T.leaf (Rd.again [D.i 0, D.l a.L, D.l b.L, D.i c.I, D.i d.I, D.i (e.I.toNat : Int), D.i (IntKind.wrap IntKind.i64 (f.I + (1 : Int))), D.l g.L, D.l h.L, D.l i.L, D.i j.I, D.i k.I, D.l l.L, D.l m.L, D.l n.L])) (T.need true (T.leaf (Rd.again [D.i 1, D.l a.L, D.l b.L, D.i c.I, D.i d.I, D.i (e.I.toNat : Int), D.i 1, D.i (IntKind.wrap IntKind.i64 (f.I + (1 : Int))), D.l g.L, D.l h.L, D.l i.L, D.i j.I, D.i k.I, D.l l.L, D.l m.L, D.l n.L, D.l [[D.i (IntKind.wrap IntKind.i64 (Int.tdiv (betwV 0 j.I k.I l.L m.L g.L (D.I (List.getD (List.getD n.L f.I.toNat []) 0 default)) (D.I (List.getD (List.getD n.L (Int.toNat (IntKind.wrap IntKind.i64 (f.I + (1 : Int)))) []) 0 default))) (100000 : Int))), D.i (IntKind.wrap IntKind.i64 (IntKind.wrap IntKind.i64 (Int.tdiv (betwV 1 j.I k.I l.L m.L g.L (D.I (List.getD (List.getD n.L f.I.toNat []) 0 default)) (D.I (List.getD (List.getD n.L (Int.toNat (IntKind.wrap IntKind.i64 (f.I + (1 : Int)))) []) 0 default))) (100000 : Int)) + (1 : Int))), D.i (D.I (List.getD (List.getD b.L f.I.toNat []) 0 default))]]])))))) (T.need true (T.ite false (T.leaf (Rd.again [D.i 0, D.l a.L, D.l b.L, D.i c.I, D.i d.I, D.i (e.I.toNat : Int), D.i (IntKind.wrap IntKind.i64 (f.I + (1 : Int))), D.l g.L, D.l h.L, D.l i.L, D.i j.I, D.i k.I, D.l l.L, D.l m.L, D.l n.L])) (T.need true (T.leaf (Rd.again [D.i 1, D.l a.L, D.l b.L, D.i c.I, D.i d.I, D.i (e.I.toNat : Int), D.i 1, D.i (IntKind.wrap IntKind.i64 (f.I + (1 : Int))), D.l g.L, D.l h.L, D.l i.L, D.i j.I, D.i k.I, D.l l.L, D.l m.L, D.l n.L, D.l [[D.i (IntKind.wrap IntKind.i64 (Int.tdiv (betwV 0 j.I k.I l.L m.L g.L (D.I (List.getD (List.getD n.L f.I.toNat []) 0 default)) (D.I (List.getD (List.getD n.L (Int.toNat (IntKind.wrap IntKind.i64 (f.I + (1 : Int)))) []) 0 default))) (100000 : Int))), D.i (IntKind.wrap IntKind.i64 (IntKind.wrap IntKind.i64 (Int.tdiv (betwV 1 j.I k.I l.L m.L g.L (D.I (List.getD (List.getD n.L f.I.toNat []) 0 default)) (D.I (List.getD (List.getD n.L (Int.toNat (IntKind.wrap IntKind.i64 (f.I + (1 : Int)))) []) 0 default))) (100000 : Int)) + (1 : Int))), D.i 0]]])))))))))))))) (T.leaf (Rd.out (Ex.exit 2) [D.i 0, D.l a.L, D.i c.I, D.i d.I, D.i (e.I.toNat : Int), D.l g.L, D.l h.L, D.l i.L, D.i j.I, D.i k.I, D.l l.L, D.l m.L, D.l n.L])) := by kernel_rfl
theorem t3_13_1 (a b c d e f g h i j k l m n o p : D) : roundT C tab3 3 (loopOf C.P 3 13) l3_13 [.i 1, a, b, c, d, e, f, g, h, i, j, k, l, m, n, o, p] =
  T.ite (decide (IntKind.wrap IntKind.i64 (g.I + (1 : Int)) < (e.I.toNat : Int))) (T.need (decide ((0 : Int) ≤ g.I ∧ g.I < (e.I.toNat : Int))) (T.need (decide (g.I.toNat < o.L.length)) (T.need (decide ((0 : Int) ≤ IntKind.wrap IntKind.i64 (g.I + (1 : Int)) ∧ IntKind.wrap IntKind.i64 (g.I + (1 : Int)) < (e.I.toNat : Int))) (T.need (decide (Int.toNat (IntKind.wrap IntKind.i64 (g.I + (1 : Int))) < o.L.length)) (T.need (yes (betwB k.I l.I m.L n.L h.L i.L j.L (D.I (List.getD (List.getD o.L g.I.toNat []) 0 default)) (D.I (List.getD (List.getD o.L (Int.toNat (IntKind.wrap IntKind.i64 (g.I + (1 : Int)))) []) 0 default)) = true)) (T.ite false (T.leaf (Rd.out Ex.ret [D.b false])) (T.need true (T.need true (T.ite (decide (g.I < (b.L.length : Int))) (T.need (decide ((0 : Int) ≤ g.I ∧ g.I < (b.L.length : Int))) (T.need true (T.ite false (T.leaf (Rd.again [D.i 1, D.l a.L, D.l b.L, D.i c.I, D.i d.I, D.i (e.I.toNat : Int), D.i (f.I.toNat : Int), D.i (IntKind.wrap IntKind.i64 (g.I + (1 : Int))), D.l h.L, D.l i.L, D.l j.L, D.i k.I, D.i l.I, D.l m.L, D.l n.L, D.l o.L, D.l p.L])) (T.need (decide (f.I.toNat ≤ p.L.length ∧ f.I.toNat + 1 ≤ 2 ^ 62 ∧ (f.I.toNat + 1) * Try.prog.types[40].bytes ≤ 2 ^ 47)) (T.leaf (Rd.again [D.i 1, D.l a.L, D.l b.L, D.i c.I, D.i d.I, D.i (e.I.toNat : Int), D.i (↑(f.I.toNat + 1) : Int), D.i (IntKind.wrap IntKind.i64 (g.I + (1 : Int))), D.l h.L, D.l i.L, D.l j.L, D.i k.I, D.i l.I, D.l m.L, D.l n.L, D.l o.L, D.l (List.take f.I.toNat p.L ++ List.take (List.length [[D.i (IntKind.wrap IntKind.i64 (Int.tdiv (betwV 0 k.I l.I m.L n.L h.L (D.I (List.getD (List.getD o.L g.I.toNat []) 0 default)) (D.I (List.getD (List.getD o.L (Int.toNat (IntKind.wrap IntKind.i64 (g.I + (1 : Int)))) []) 0 default))) (100000 : Int))), D.i (IntKind.wrap IntKind.i64 (IntKind.wrap IntKind.i64 (Int.tdiv (betwV 1 k.I l.I m.L n.L h.L (D.I (List.getD (List.getD o.L g.I.toNat []) 0 default)) (D.I (List.getD (List.getD o.L (Int.toNat (IntKind.wrap IntKind.i64 (g.I + (1 : Int)))) []) 0 default))) (100000 : Int)) + (1 : Int))), D.i (D.I (List.getD (List.getD b.L g.I.toNat []) 0 default))]]) [[D.i (IntKind.wrap IntKind.i64 (Int.tdiv (betwV 0 k.I l.I m.L n.L h.L (D.I (List.getD (List.getD o.L g.I.toNat []) 0 default)) (D.I (List.getD (List.getD o.L (Int.toNat (IntKind.wrap IntKind.i64 (g.I + (1 : Int)))) []) 0 default))) (100000 : Int))), D.i (IntKind.wrap IntKind.i64 (IntKind.wrap IntKind.i64 (Int.tdiv (betwV 1 k.I l.I m.L n.L h.L (D.I (List.getD (List.getD o.L g.I.toNat []) 0 default)) (D.I (List.getD (List.getD o.L (Int.toNat (IntKind.wrap IntKind.i64 (g.I + (1 : Int)))) []) 0 default))) (100000 : Int)) + (1 : Int))), D.i (D.I (List.getD (List.getD b.L g.I.toNat []) 0 default))]])])))))) (T.need true (T.ite false (T.leaf (Rd.again [D.i 1, D.l a.L, D.l b.L, D.i c.I, D.i d.I, D.i (e.I.toNat : Int), D.i (f.I.toNat : Int), D.i (IntKind.wrap IntKind.i64 (g.I + (1 : Int))), D.l h.L, D.l i.L, D.l j.L, D.i k.I, D.i l.I, D.l m.L, D.l n.L, D.l o.L, D.l p.L])) (T.need (decide (f.I.toNat ≤ p.L.length ∧ f.I.toNat + 1 ≤ 2 ^ 62 ∧ (f.I.toNat + 1) * Try.prog.types[40].bytes ≤ 2 ^ 47)) (T.leaf (Rd.again [D.i 1, D.l a.L, D.l b.L, D.i c.I, D.i d.I, D.i (e.I.toNat : Int), D.i (↑(f.I.toNat + 1) : Int), D.i (IntKind.wrap IntKind.i64 (g.I + (1 : Int))), D.l h.L, D.l i.L, D.l j.L, D.i k.I, D.i l.I, D.l m.L, D.l n.L, D.l o.L, D.l (List.take f.I.toNat p.L ++ List.take (List.length [[D.i (IntKind.wrap IntKind.i64 (Int.tdiv (betwV 0 k.I l.I m.L n.L h.L (D.I (List.getD (List.getD o.L g.I.toNat []) 0 default)) (D.I (List.getD (List.getD o.L (Int.toNat (IntKind.wrap IntKind.i64 (g.I + (1 : Int)))) []) 0 default))) (100000 : Int))), D.i (IntKind.wrap IntKind.i64 (IntKind.wrap IntKind.i64 (Int.tdiv (betwV 1 k.I l.I m.L n.L h.L (D.I (List.getD (List.getD o.L g.I.toNat []) 0 default)) (D.I (List.getD (List.getD o.L (Int.toNat (IntKind.wrap IntKind.i64 (g.I + (1 : Int)))) []) 0 default))) (100000 : Int)) + (1 : Int))), D.i 0]]) [[D.i (IntKind.wrap IntKind.i64 (Int.tdiv (betwV 0 k.I l.I m.L n.L h.L (D.I (List.getD (List.getD o.L g.I.toNat []) 0 default)) (D.I (List.getD (List.getD o.L (Int.toNat (IntKind.wrap IntKind.i64 (g.I + (1 : Int)))) []) 0 default))) (100000 : Int))), D.i (IntKind.wrap IntKind.i64 (IntKind.wrap IntKind.i64 (Int.tdiv (betwV 1 k.I l.I m.L n.L h.L (D.I (List.getD (List.getD o.L g.I.toNat []) 0 default)) (D.I (List.getD (List.getD o.L (Int.toNat (IntKind.wrap IntKind.i64 (g.I + (1 : Int)))) []) 0 default))) (100000 : Int)) + (1 : Int))), D.i 0]])])))))))))))))) (T.leaf (Rd.out (Ex.exit 2) [D.i 1, D.l a.L, D.i c.I, D.i d.I, D.i (e.I.toNat : Int), D.i (f.I.toNat : Int), D.l h.L, D.l i.L, D.l j.L, D.i k.I, D.i l.I, D.l m.L, D.l n.L, D.l o.L, D.l p.L])) := by kernel_rfl
theorem t3_31 (a b c d e f g h i j k l m n o p q r : D) : roundT C tab3 3 (loopOf C.P 3 31) l3_31 [a, b, c, d, e, f, g, h, i, j, k, l, m, n, o, p, q, r] =
  T.ite (decide (h.I < (e.I.toNat : Int))) (T.need (decide ((0 : Int) ≤ h.I ∧ h.I < (f.I.toNat : Int))) (T.need (decide (h.I.toNat < r.L.length)) (T.need (decide ((0 : Int) ≤ h.I ∧ h.I < (f.I.toNat : Int))) (T.need (decide (h.I.toNat < r.L.length)) (T.ite (decide (D.I (List.getD (List.getD r.L h.I.toNat []) 0 default) < (0 : Int))) (T.leaf (Rd.out Ex.ret [D.b false])) (T.ite (decide (IntKind.wrap IntKind.i64 (g.I + D.I (List.getD (List.getD r.L h.I.toNat []) 0 default)) > b.I)) (T.leaf (Rd.out Ex.ret [D.b false])) (T.ite (decide (h.I < (a.L.length : Int))) (T.need (decide ((0 : Int) ≤ h.I ∧ h.I < (a.L.length : Int))) (T.need (decide ((0 : Int) ≤ h.I ∧ h.I < (d.I.toNat : Int))) (T.need (decide (h.I.toNat < p.L.length)) (T.need (decide ((0 : Int) ≤ IntKind.wrap IntKind.i64 (h.I + (1 : Int)) ∧ IntKind.wrap IntKind.i64 (h.I + (1 : Int)) < (d.I.toNat : Int))) (T.need (decide (Int.toNat (IntKind.wrap IntKind.i64 (h.I + (1 : Int))) < p.L.length)) (T.need (yes (betwB l.I m.I n.L o.L i.L j.L k.L (D.I (List.getD (List.getD p.L h.I.toNat []) 0 default)) (D.I (List.getD (List.getD p.L (Int.toNat (IntKind.wrap IntKind.i64 (h.I + (1 : Int)))) []) 0 default)) = true)) (T.ite false (T.leaf (Rd.out Ex.ret [D.b false])) (T.need true (T.need true (T.ite (decide (IntKind.wrap IntKind.i64 (IntKind.wrap IntKind.i64 (g.I + D.I (List.getD (List.getD r.L h.I.toNat []) 0 default)) - IntKind.wrap IntKind.i64 (Int.tdiv (IntKind.wrap IntKind.i64 (betwV 0 l.I m.I n.L o.L i.L (D.I (List.getD (List.getD p.L h.I.toNat []) 0 default)) (D.I (List.getD (List.getD p.L (Int.toNat (IntKind.wrap IntKind.i64 (h.I + (1 : Int)))) []) 0 default)) + IntKind.wrap IntKind.i64 (Int.tdiv (IntKind.wrap IntKind.i64 (IntKind.wrap IntKind.i64 (betwV 1 l.I m.I n.L o.L i.L (D.I (List.getD (List.getD p.L h.I.toNat []) 0 default)) (D.I (List.getD (List.getD p.L (Int.toNat (IntKind.wrap IntKind.i64 (h.I + (1 : Int)))) []) 0 default)) - betwV 0 l.I m.I n.L o.L i.L (D.I (List.getD (List.getD p.L h.I.toNat []) 0 default)) (D.I (List.getD (List.getD p.L (Int.toNat (IntKind.wrap IntKind.i64 (h.I + (1 : Int)))) []) 0 default))) * minI (100 : Int) (maxI (0 : Int) (D.I (List.getD (List.getD a.L h.I.toNat []) 0 default))))) (100 : Int)))) (100000 : Int))) < c.I)) (T.leaf (Rd.out Ex.ret [D.b false])) (T.leaf (Rd.again [D.l a.L, D.i b.I, D.i c.I, D.i (d.I.toNat : Int), D.i (e.I.toNat : Int), D.i (f.I.toNat : Int), D.i (IntKind.wrap IntKind.i64 (IntKind.wrap IntKind.i64 (g.I + D.I (List.getD (List.getD r.L h.I.toNat []) 0 default)) - IntKind.wrap IntKind.i64 (Int.tdiv (IntKind.wrap IntKind.i64 (betwV 0 l.I m.I n.L o.L i.L (D.I (List.getD (List.getD p.L h.I.toNat []) 0 default)) (D.I (List.getD (List.getD p.L (Int.toNat (IntKind.wrap IntKind.i64 (h.I + (1 : Int)))) []) 0 default)) + IntKind.wrap IntKind.i64 (Int.tdiv (IntKind.wrap IntKind.i64 (IntKind.wrap IntKind.i64 (betwV 1 l.I m.I n.L o.L i.L (D.I (List.getD (List.getD p.L h.I.toNat []) 0 default)) (D.I (List.getD (List.getD p.L (Int.toNat (IntKind.wrap IntKind.i64 (h.I + (1 : Int)))) []) 0 default)) - betwV 0 l.I m.I n.L o.L i.L (D.I (List.getD (List.getD p.L h.I.toNat []) 0 default)) (D.I (List.getD (List.getD p.L (Int.toNat (IntKind.wrap IntKind.i64 (h.I + (1 : Int)))) []) 0 default))) * minI (100 : Int) (maxI (0 : Int) (D.I (List.getD (List.getD a.L h.I.toNat []) 0 default))))) (100 : Int)))) (100000 : Int)))), D.i (IntKind.wrap IntKind.i64 (h.I + (1 : Int))), D.l i.L, D.l j.L, D.l k.L, D.i l.I, D.i m.I, D.l n.L, D.l o.L, D.l p.L, D.l q.L, D.l r.L])))))))))))) (T.need (decide ((0 : Int) ≤ h.I ∧ h.I < (d.I.toNat : Int))) (T.need (decide (h.I.toNat < p.L.length)) (T.need (decide ((0 : Int) ≤ IntKind.wrap IntKind.i64 (h.I + (1 : Int)) ∧ IntKind.wrap IntKind.i64 (h.I + (1 : Int)) < (d.I.toNat : Int))) (T.need (decide (Int.toNat (IntKind.wrap IntKind.i64 (h.I + (1 : Int))) < p.L.length)) (T.need (yes (betwB l.I m.I n.L o.L i.L j.L k.L (D.I (List.getD (List.getD p.L h.I.toNat []) 0 default)) (D.I (List.getD (List.getD p.L (Int.toNat (IntKind.wrap IntKind.i64 (h.I + (1 : Int)))) []) 0 default)) = true)) (T.ite false (T.leaf (Rd.out Ex.ret [D.b false])) (T.need true (T.need true (T.ite (decide (IntKind.wrap IntKind.i64 (IntKind.wrap IntKind.i64 (g.I + D.I (List.getD (List.getD r.L h.I.toNat []) 0 default)) - IntKind.wrap IntKind.i64 (Int.tdiv (IntKind.wrap IntKind.i64 (betwV 0 l.I m.I n.L o.L i.L (D.I (List.getD (List.getD p.L h.I.toNat []) 0 default)) (D.I (List.getD (List.getD p.L (Int.toNat (IntKind.wrap IntKind.i64 (h.I + (1 : Int)))) []) 0 default)) + IntKind.wrap IntKind.i64 (Int.tdiv (IntKind.wrap IntKind.i64 (IntKind.wrap IntKind.i64 (betwV 1 l.I m.I n.L o.L i.L (D.I (List.getD (List.getD p.L h.I.toNat []) 0 default)) (D.I (List.getD (List.getD p.L (Int.toNat (IntKind.wrap IntKind.i64 (h.I + (1 : Int)))) []) 0 default)) - betwV 0 l.I m.I n.L o.L i.L (D.I (List.getD (List.getD p.L h.I.toNat []) 0 default)) (D.I (List.getD (List.getD p.L (Int.toNat (IntKind.wrap IntKind.i64 (h.I + (1 : Int)))) []) 0 default))) * (0 : Int))) (100 : Int)))) (100000 : Int))) < c.I)) (T.leaf (Rd.out Ex.ret [D.b false])) (T.leaf (Rd.again [D.l a.L, D.i b.I, D.i c.I, D.i (d.I.toNat : Int), D.i (e.I.toNat : Int), D.i (f.I.toNat : Int), D.i (IntKind.wrap IntKind.i64 (IntKind.wrap IntKind.i64 (g.I + D.I (List.getD (List.getD r.L h.I.toNat []) 0 default)) - IntKind.wrap IntKind.i64 (Int.tdiv (IntKind.wrap IntKind.i64 (betwV 0 l.I m.I n.L o.L i.L (D.I (List.getD (List.getD p.L h.I.toNat []) 0 default)) (D.I (List.getD (List.getD p.L (Int.toNat (IntKind.wrap IntKind.i64 (h.I + (1 : Int)))) []) 0 default)) + IntKind.wrap IntKind.i64 (Int.tdiv (IntKind.wrap IntKind.i64 (IntKind.wrap IntKind.i64 (betwV 1 l.I m.I n.L o.L i.L (D.I (List.getD (List.getD p.L h.I.toNat []) 0 default)) (D.I (List.getD (List.getD p.L (Int.toNat (IntKind.wrap IntKind.i64 (h.I + (1 : Int)))) []) 0 default)) - betwV 0 l.I m.I n.L o.L i.L (D.I (List.getD (List.getD p.L h.I.toNat []) 0 default)) (D.I (List.getD (List.getD p.L (Int.toNat (IntKind.wrap IntKind.i64 (h.I + (1 : Int)))) []) 0 default))) * (0 : Int))) (100 : Int)))) (100000 : Int)))), D.i (IntKind.wrap IntKind.i64 (h.I + (1 : Int))), D.l i.L, D.l j.L, D.l k.L, D.i l.I, D.i m.I, D.l n.L, D.l o.L, D.l p.L, D.l q.L, D.l r.L])))))))))))))))))) (T.leaf (Rd.out (Ex.exit 4) [])) := by kernel_rfl
end Go.Proofs.Ytgoedfonmocafaa
namespace Go.Proofs.Ytgoedfonmocafaa
open Go.Lite
set_option maxRecDepth 100000
theorem fn_weak {n f : Nat} {s : Sig} {G G' : List D → T (List D)} (h : FnOK C n f (mkF s G)) (hw : ∀ ds r, (G' ds).run = some r → (G ds).run = some r) : FnOK C n f (mkF s G') := h.mono fun args v hb hr => by
  unfold mkF at hr ⊢
  split
  · rename_i ds hds
    simp only [hds, T.run_map, Option.map_eq_some_iff] at hr ⊢
    obtain ⟨r, h1, h2⟩ := hr
    exact ⟨r, hw _ _ h1, h2⟩
  · rename_i hds
    simp only [hds] at hr
    cases hr
theorem ok12w (n : Nat) : FnOK C (n + 7) 12 (mkF s12 G12w) := fn_weak (ok12 n) fun ds r h => by
  unfold G12w at h
  split at h
  · obtain ⟨hp, h⟩ := need_some h
    rw [yes_iff] at hp
    unfold G12
    exact go_true hp h
  · cases h
theorem ok14w (n : Nat) : FnOK C (n + 6) 14 (mkF s14 G14w) := fn_weak (ok14 n) fun ds r h => by
  unfold G14w at h
  split at h
  · rename_i t r' s l
    obtain ⟨hp, h⟩ := need_some h
    rw [yes_iff] at hp
    have hp' : tankOk t.I r'.I s.I l.L = true := hp
    have hb : big = 4611686018427387904 := rfl
    have hl : l.L.length ≤ 50 := by
      have h2 := hp'
      simp only [tankOk, Bool.and_eq_true, decide_eq_true_eq] at h2
      exact h2.1.2
    unfold G14
    refine go_yes (by omega) ?_
    rw [hp']
    exact h
  · cases h
theorem rg_ix (R : List (List D)) (j : Nat) : ix (R.getD j []) 0 = rgI R j := rfl
theorem sumI_append (k : Nat) (a b : List (List D)) : sumI k (a ++ b) = sumI k a + sumI k b := by simp [sumI]
theorem sumI_le : ∀ (L : List (List D)), (∀ x ∈ L, ix x 0 ≤ ix x 1) → sumI 0 L ≤ sumI 1 L
  | [], _ => by simp [sumI]
  | x :: L, h => by
    have h1 := sumI_le L fun y hy => h y (List.mem_cons_of_mem _ hy)
    have h2 := h x List.mem_cons_self
    rw [sumI_cons, sumI_cons]
    omega
theorem take_seg {L : List (List D)} {a b : Nat} (h : a ≤ b) : L.take b = L.take a ++ (L.take b).drop a := by
  have := (List.take_append_drop a (L.take b)).symm
  rwa [List.take_take, Nat.min_eq_left h] at this
theorem betw_rng {lo hi : Int} {r u p c j : List (List D)} (h : paceP lo hi r u p c j) {a b : Int} (ha : 0 ≤ a) (hab : a ≤ b) (hb : b ≤ lenR p) : betwB lo hi r u p c j a b = true ∧ 0 ≤ betwV 0 lo hi r u p a b ∧ betwV 0 lo hi r u p a b ≤ betwV 1 lo hi r u p a b ∧ betwV 1 lo hi r u p a b ≤ 2400000000 := by
  obtain ⟨⟨hr, hs⟩, hl⟩ := h
  obtain ⟨hm, -, -, -, -⟩ := road_of hr
  have hr' : roadOk p c j = true := hr
  have hs' : speedsOk lo hi r u = true := hs
  have hlen := mets_len (lo := lo) (hi := hi) (r := r) (u := u) hm
  have hall := mets_all (lo := lo) (hi := hi) (r := r) (u := u) hs hm
  have hx : ∀ x ∈ ((mets lo hi r u p).take b.toNat).drop a.toNat, metP x ∧ ix x 0 ≤ ix x 1 := fun x hx => hall x (List.mem_of_mem_take (List.mem_of_mem_drop hx))
  have key : ∀ k, k ≤ 1 → betwV k lo hi r u p a b = sumI k (((mets lo hi r u p).take b.toNat).drop a.toNat) := fun k hk => by
    unfold betwV sumAtM
    rw [sums_get (by omega), sums_get (by omega)]
    have e := congrArg (sumI k) (take_seg (L := mets lo hi r u p) (a := a.toNat) (b := b.toNat) (by omega))
    rw [sumI_append] at e
    have : k = 0 ∨ k = 1 := by omega
    rcases this with rfl | rfl
    · show sumI 0 _ - sumI 0 _ = _
      omega
    · show sumI 1 _ - sumI 1 _ = _
      omega
  have h0 := sumI_rng _ 0 (by omega) fun x h => (hx x h).1
  have h1 := sumI_rng _ 1 (by omega) fun x h => (hx x h).1
  have h2 := sumI_le _ fun x h => (hx x h).2
  have hlb : (((mets lo hi r u p).take b.toNat).drop a.toNat).length ≤ (mets lo hi r u p).length := by rw [List.length_drop, List.length_take]; omega
  rw [key 0 (by omega), key 1 (by omega)]
  refine ⟨?_, h0.1, h2, by omega⟩
  unfold betwB
  rw [hr', hs', Lite.within_iff.2 ⟨ha, by omega⟩, Lite.within_iff.2 ⟨by omega, hb⟩, decide_eq_true hab]
  rfl
theorem plF_len (cuts : List (List D)) (i : Nat) : (plF cuts i).length = i + 1 := by simp [plF]
theorem plF_succ (cuts : List (List D)) (i : Nat) : plF cuts (i + 1) = plF cuts i ++ [[.i (rgI cuts i)]] := by simp [plF, List.range_succ]
theorem plF_get {cuts : List (List D)} {i j : Nat} (h : j < i) : rgI (plF cuts i) (j + 1) = rgI cuts j := by
  unfold plF
  show ix ((_ :: _ : List (List D)).getD (j + 1) []) 0 = _
  rw [List.getD_cons_succ, List.getD_eq_getElem?_getD, List.getElem?_map, List.getElem?_range h]
  rfl
theorem plF_zero (cuts : List (List D)) (i : Nat) : rgI (plF cuts i) 0 = 0 := rfl
theorem ok3_5 (hA : AllOK C 12 sp3) : LoopSim C 12 3 (loopOf C.P 3 5) (mkL l3_5 G3_5) := by
  refine loop_ofK hC (sp := sp3) (lp := lp3) (sw := sw3) hA trivial 0 [] (by kernel_rfl) rfl (fun k hk => by cases hk) (by kernel_rfl) (fun ds => (((ds.getD 0 default).L.length : Int) - (ds.getD 6 default).I).toNat) fun ds rr h => ?_
  unfold G3_5 at h
  split at h
  · rename_i cuts sh fi ta re s i p c j lo hi r u o
    obtain ⟨hp, h⟩ := need_some h
    rw [yes_iff] at hp
    obtain ⟨hm, hl, hc, i0, i1, hs, ho⟩ := hp
    refine ⟨by rw [fuelC]; show ((cuts.L.length : Int) - i.I).toNat < _; omega, ?_⟩
    rw [show roundTK C (mkTab sp3 lp3 sw3) 3 (loopOf C.P 3 5) 0 l3_5 [cuts, sh, fi, ta, re, s, i, p, c, j, lo, hi, r, u, o] = _ from t3_5 cuts sh fi ta re s i p c j lo hi r u o]
    obtain ⟨k, hk⟩ : ∃ k : Nat, i.I = k := ⟨i.I.toNat, by omega⟩
    rw [hk] at i0 i1 hs ho h
    rw [Int.toNat_natCast] at ho h
    have hsn : s.I.toNat = k + 1 := by omega
    have hol : o.L.length = k + 1 := by rw [ho, plF_len]
    have htk : o.L.take (k + 1) = o.L := List.take_of_length_le (by omega)
    simp only [hk, hsn, hol, htk, Int.toNat_natCast, ix_def, rg_ix, bytes3, List.length_cons, List.length_nil, show (0 : Nat) + 1 = 1 from rfl, take1] at h ⊢
    refine rd_if (fun hlt => ?_) fun hge => ?_
    · have hlt : k < cuts.L.length := by omega
      rw [show cuts.L.length - k = (cuts.L.length - (k + 1)) + 1 by omega] at h
      simp only [allFrom] at h
      rw [wrap_succ (by omega)]
      refine rd_dec (by omega) (rd_dec (by omega) (rd_dec (by omega) (rd_if (fun c1 => ?_) fun c1 => ?_)))
      · refine rd_dec (by omega) (rd_yes ⟨hm.2.1, hm.2.2⟩ (rd_if (fun c2 => ?_) fun c2 => ?_))
        · have hcut : cutAt cuts.L (lenR p.L) k = true := by
            unfold cutAt
            rw [← ho, decide_eq_true c1, decide_eq_true c2]
            rfl
          rw [hcut, Bool.true_and] at h
          refine rd_dec (by omega) (rd_need rfl (rd_false rfl (rd_dec (by omega) (rd_again ((need_yes ⟨hm, hl, hc, by simp only [I_i]; omega, by simp only [I_i, L_l]; omega, by simp only [I_i]; omega, ?_⟩).trans ?_) (by
            show ((cuts.L.length : Int) - ((k + 1 : Nat) : Int)).toNat < ((cuts.L.length : Int) - i.I).toNat
            omega)))))
          · simp only [I_i, L_l, Int.toNat_natCast]
            exact h
          · simp only [I_i, L_l, Int.toNat_natCast]
            rw [plF_succ, ← ho]
        · have hcut : cutAt cuts.L (lenR p.L) k = false := by
            unfold cutAt
            rw [decide_eq_false c2, Bool.and_false]
          rw [hcut, Bool.false_and] at h
          exact rd_out h
      · have hcut : cutAt cuts.L (lenR p.L) k = false := by
          unfold cutAt
          rw [← ho, decide_eq_false c1, Bool.false_and]
        rw [hcut, Bool.false_and] at h
        exact rd_out h
    · have hkl : k = cuts.L.length := by omega
      rw [show cuts.L.length - k = 0 by omega] at h
      simp only [allFrom] at h
      rw [run_ite, if_pos rfl] at h
      rw [ho, hkl]
      exact rd_out h
  · cases h
theorem legsF_len {lo hi : Int} {r u p fi o : List (List D)} {n : Nat} : (legsF lo hi r u p fi o n).length = n := by simp [legsF]
theorem legsF_succ {lo hi : Int} {r u p fi o : List (List D)} {n : Nat} : legsF lo hi r u p fi o (n + 1) = legsF lo hi r u p fi o n ++ [legI lo hi r u p fi o n] := by simp [legsF, List.range_succ]
theorem legsF_get {lo hi : Int} {r u p fi o : List (List D)} {n k : Nat} (h : k < n) : (legsF lo hi r u p fi o n).getD k [] = legI lo hi r u p fi o k := by
  unfold legsF
  rw [List.getD_eq_getElem?_getD, List.getElem?_map, List.getElem?_range h]
  rfl
theorem bytes40 : Try.prog.types[40].bytes = 24 := by kernel_rfl
def μ13 (ds : List D) : Nat := match ds with
  | [_, _, _, _, _, _, _, _, _, _, _, _, _, _, o] => o.L.length + 1
  | [_, _, _, _, _, _, _, i, _, _, _, _, _, _, _, o, _] => ((o.L.length : Int) - i.I).toNat
  | _ => 0
theorem ok3_13 (hA : AllOK C 12 sp3) : LoopSim C 12 3 (loopOf C.P 3 13) (mkL l3_13 G3_13) := by
  refine loop_ofK hC (sp := sp3) (lp := lp3) (sw := sw3) hA trivial 0 [] (by kernel_rfl) rfl (fun k hk => by cases hk) (by kernel_rfl) μ13 fun ds rr h => ?_
  unfold G3_13 at h
  split at h
  · rename_i z sh fi ta re s i p c j lo hi r u o
    obtain ⟨hp, h⟩ := need_some h
    rw [yes_iff] at hp
    obtain ⟨hz, hpc, hpl, hs, hi0, ho2⟩ := hp
    have hol := hpl.1
    refine ⟨by rw [fuelC]; show o.L.length + 1 < _; omega, ?_⟩
    rw [roundTK_head (j := z) (n := 0) hz (by decide), show roundTK C (mkTab sp3 lp3 sw3) 3 (loopOf C.P 3 13) 0 l3_13 [.i 0, sh, fi, ta, re, s, i, p, c, j, lo, hi, r, u, o] = _ from t3_13_0 sh fi ta re s i p c j lo hi r u o]
    have w1 : IntKind.i64.wrap ((0 : Int) + 1) = 1 := by decide
    have z1 : Int.toNat 1 = 1 := rfl
    obtain ⟨q1, q2, q3⟩ := hpl.2 0 (by omega)
    obtain ⟨b1, b2, b3, b4⟩ := betw_rng hpc q1 q2 q3
    simp only [hi0, hs, w1, z1, Int.toNat_natCast, Int.toNat_zero, ix_def, rg_ix] at h ⊢
    generalize hA0 : betwV 0 lo.I hi.I r.L u.L p.L (rgI o.L 0) (rgI o.L 1) = A at b2 b3 ⊢
    generalize hB0 : betwV 1 lo.I hi.I r.L u.L p.L (rgI o.L 0) (rgI o.L 1) = B at b3 b4 ⊢
    obtain ⟨d1, d2, d3⟩ := tdiv_nn (a := A) (b := 100000) (by omega) (by omega)
    obtain ⟨d4, d5, d6⟩ := tdiv_nn (a := B) (b := 100000) (by omega) (by omega)
    have w2 : IntKind.i64.wrap (A.tdiv 100000) = A.tdiv 100000 := wrap_id (by omega) (by omega)
    have w3 : IntKind.i64.wrap (B.tdiv 100000) = B.tdiv 100000 := wrap_id (by omega) (by omega)
    have w4 : IntKind.i64.wrap (B.tdiv 100000 + 1) = B.tdiv 100000 + 1 := wrap_id (by omega) (by omega)
    have hleg : legI lo.I hi.I r.L u.L p.L fi.L o.L 0 = [.i (A.tdiv 100000), .i (B.tdiv 100000 + 1), .i (if 0 < fi.L.length then rgI fi.L 0 else 0)] := by unfold legI; rw [← hA0, ← hB0]
    simp only [w2, w3, w4]
    have fin : ∀ x : Int, x = (if 0 < fi.L.length then rgI fi.L 0 else 0) → (G3_13 [.i 1, .l sh.L, .l fi.L, .i ta.I, .i re.I, .i (o.L.length : Int), .i 1, .i 1, .l p.L, .l c.L, .l j.L, .i lo.I, .i hi.I, .l r.L, .l u.L, .l o.L, .l [[.i (A.tdiv 100000), .i (B.tdiv 100000 + 1), .i x]]]).run = some rr := fun x hx => by
      refine (need_yes ⟨rfl, hpc, hpl, rfl, by simp only [I_i]; omega, by simp only [I_i, L_l]; omega, rfl, ?_⟩).trans h
      show [[D.i (A.tdiv 100000), D.i (B.tdiv 100000 + 1), D.i x]] = legsF lo.I hi.I r.L u.L p.L fi.L o.L 1
      rw [hx, ← hleg]
      rfl
    have hmu : μ13 [.i 1, .l sh.L, .l fi.L, .i ta.I, .i re.I, .i (o.L.length : Int), .i 1, .i 1, .l p.L, .l c.L, .l j.L, .i lo.I, .i hi.I, .l r.L, .l u.L, .l o.L, .l []] < μ13 [z, sh, fi, ta, re, s, i, p, c, j, lo, hi, r, u, o] := by
      show ((o.L.length : Int) - 1).toNat < o.L.length + 1
      omega
    refine rd_pos (by omega) (rd_dec (by omega) (rd_dec (by omega) (rd_dec (by omega) (rd_dec (by omega) (rd_yes b1 (rd_false rfl (rd_need rfl (rd_need rfl (rd_if (fun hc => ?_) fun hc => ?_)))))))))
    · refine rd_dec (by omega) (rd_need rfl (rd_false rfl (rd_need rfl (rd_again (fin _ ?_) hmu))))
      rw [if_pos (by omega)]
    · refine rd_need rfl (rd_false rfl (rd_need rfl (rd_again (fin _ ?_) hmu)))
      rw [if_neg (by omega)]
  · rename_i z sh fi ta re s t i p c j lo hi r u o w
    obtain ⟨hp, h⟩ := need_some h
    rw [yes_iff] at hp
    obtain ⟨hz, hpc, hpl, hs, i0, i1, ht, hw⟩ := hp
    have hol := hpl.1
    refine ⟨by rw [fuelC]; show ((o.L.length : Int) - i.I).toNat < _; omega, ?_⟩
    rw [roundTK_head (j := z) (n := 1) hz (by decide), show roundTK C (mkTab sp3 lp3 sw3) 3 (loopOf C.P 3 13) 0 l3_13 [.i 1, sh, fi, ta, re, s, t, i, p, c, j, lo, hi, r, u, o, w] = _ from t3_13_1 sh fi ta re s t i p c j lo hi r u o w]
    obtain ⟨k, hk⟩ : ∃ k : Nat, i.I = k := ⟨i.I.toNat, by omega⟩
    rw [hk] at i0 i1 ht hw
    rw [Int.toNat_natCast] at hw
    have hwl : w.L.length = k := by rw [hw, legsF_len]
    have htk : w.L.take k = w.L := List.take_of_length_le (by omega)
    have w1 : IntKind.i64.wrap ((k : Int) + 1) = ((k + 1 : Nat) : Int) := wrap_succ (by omega)
    simp only [hk, hs, ht, hwl, htk, w1, Int.toNat_natCast, ix_def, rg_ix, bytes40, List.length_cons, List.length_nil, show (0 : Nat) + 1 = 1 from rfl, take1] at h ⊢
    refine rd_if (fun hlt => ?_) fun hge => ?_
    · obtain ⟨q1, q2, q3⟩ := hpl.2 k (by omega)
      obtain ⟨b1, b2, b3, b4⟩ := betw_rng hpc q1 q2 q3
      generalize hA0 : betwV 0 lo.I hi.I r.L u.L p.L (rgI o.L k) (rgI o.L (k + 1)) = A at b2 b3 ⊢
      generalize hB0 : betwV 1 lo.I hi.I r.L u.L p.L (rgI o.L k) (rgI o.L (k + 1)) = B at b3 b4 ⊢
      obtain ⟨d1, d2, d3⟩ := tdiv_nn (a := A) (b := 100000) (by omega) (by omega)
      obtain ⟨d4, d5, d6⟩ := tdiv_nn (a := B) (b := 100000) (by omega) (by omega)
      have w2 : IntKind.i64.wrap (A.tdiv 100000) = A.tdiv 100000 := wrap_id (by omega) (by omega)
      have w3 : IntKind.i64.wrap (B.tdiv 100000) = B.tdiv 100000 := wrap_id (by omega) (by omega)
      have w4 : IntKind.i64.wrap (B.tdiv 100000 + 1) = B.tdiv 100000 + 1 := wrap_id (by omega) (by omega)
      have hleg : legI lo.I hi.I r.L u.L p.L fi.L o.L k = [.i (A.tdiv 100000), .i (B.tdiv 100000 + 1), .i (if k < fi.L.length then rgI fi.L k else 0)] := by unfold legI; rw [← hA0, ← hB0]
      simp only [w2, w3, w4]
      have fin : ∀ x : Int, x = (if k < fi.L.length then rgI fi.L k else 0) → (G3_13 [.i 1, .l sh.L, .l fi.L, .i ta.I, .i re.I, .i (o.L.length : Int), .i ((k + 1 : Nat) : Int), .i ((k + 1 : Nat) : Int), .l p.L, .l c.L, .l j.L, .i lo.I, .i hi.I, .l r.L, .l u.L, .l o.L, .l (w.L ++ [[.i (A.tdiv 100000), .i (B.tdiv 100000 + 1), .i x]])]).run = some rr := fun x hx => by
        refine (need_yes ⟨rfl, hpc, hpl, rfl, by simp only [I_i]; omega, by simp only [I_i, L_l]; omega, rfl, ?_⟩).trans h
        show w.L ++ [[D.i (A.tdiv 100000), D.i (B.tdiv 100000 + 1), D.i x]] = legsF lo.I hi.I r.L u.L p.L fi.L o.L (k + 1)
        rw [hx, ← hleg, legsF_succ, ← hw]
      have hmu : ((o.L.length : Int) - ((k + 1 : Nat) : Int)).toNat < ((o.L.length : Int) - i.I).toNat := by omega
      refine rd_dec (by omega) (rd_dec (by omega) (rd_dec (by omega) (rd_dec (by omega) (rd_yes b1 (rd_false rfl (rd_need rfl (rd_need rfl (rd_if (fun hc => ?_) fun hc => ?_))))))))
      · refine rd_dec (by omega) (rd_need rfl (rd_false rfl (rd_dec (by omega) (rd_again (fin _ ?_) hmu))))
        rw [if_pos (by omega)]
      · refine rd_need rfl (rd_false rfl (rd_dec (by omega) (rd_again (fin _ ?_) hmu)))
        rw [if_neg (by omega)]
    · have hkl : k = o.L.length - 1 := by omega
      rw [hw, hkl]
      exact rd_out h
  · cases h
theorem burn {A B S : Int} (h0 : 0 ≤ A) (h1 : A ≤ B) (h2 : B ≤ 2400000000) (s0 : 0 ≤ S) (s1 : S ≤ 100) : ∃ y, IntKind.i64.wrap (Int.tdiv (IntKind.i64.wrap (A + IntKind.i64.wrap (Int.tdiv (IntKind.i64.wrap (IntKind.i64.wrap (B - A) * S)) 100))) 100000) = y ∧ A.tdiv 100000 ≤ y ∧ y ≤ B.tdiv 100000 ∧ 0 ≤ y ∧ y ≤ 24000 := by
  have m0 : 0 ≤ (B - A) * S := Int.mul_nonneg (by omega) s0
  have m1 : (B - A) * S ≤ (B - A) * 100 := Int.mul_le_mul_of_nonneg_left s1 (by omega)
  have w1 : IntKind.i64.wrap (B - A) = B - A := wrap_id (by omega) (by omega)
  rw [w1]
  generalize (B - A) * S = X at m0 m1 ⊢
  have w2 : IntKind.i64.wrap X = X := wrap_id (by omega) (by omega)
  obtain ⟨d1, d2, d3⟩ := tdiv_nn (a := X) (b := 100) (by omega) (by omega)
  have w3 : IntKind.i64.wrap (X.tdiv 100) = X.tdiv 100 := wrap_id (by omega) (by omega)
  rw [w2, w3]
  have hx : X.tdiv 100 ≤ B - A := by omega
  have hx0 : 0 ≤ X.tdiv 100 := by omega
  have w4 : IntKind.i64.wrap (A + X.tdiv 100) = A + X.tdiv 100 := wrap_id (by omega) (by omega)
  rw [w4]
  obtain ⟨e1, e2, e3⟩ := tdiv_nn (a := A + X.tdiv 100) (b := 100000) (by omega) (by omega)
  obtain ⟨f1, -, -⟩ := tdiv_nn (a := A) (b := 100000) (by omega) (by omega)
  obtain ⟨g1, -, -⟩ := tdiv_nn (a := B) (b := 100000) (by omega) (by omega)
  have w5 : IntKind.i64.wrap ((A + X.tdiv 100).tdiv 100000) = (A + X.tdiv 100).tdiv 100000 := wrap_id (by omega) (by omega)
  exact ⟨_, w5, by omega, by omega, by omega, by omega⟩
theorem share_rng (x : Int) : 0 ≤ minI 100 (maxI 0 x) ∧ minI 100 (maxI 0 x) ≤ 100 := by
  unfold minI maxI
  split <;> split <;> omega
theorem ok3_31 (hA : AllOK C 12 sp3) : LoopSim C 12 3 (loopOf C.P 3 31) (mkL l3_31 G3_31) := by
  refine loop_ofK hC (sp := sp3) (lp := lp3) (sw := sw3) hA trivial 0 [] (by kernel_rfl) rfl (fun k hk => by cases hk) (by kernel_rfl) (fun ds => (((ds.getD 16 default).L.length : Int) - (ds.getD 7 default).I).toNat) fun ds rr h => ?_
  unfold G3_31 at h
  split at h
  · rename_i sh ta re s t v lev i p c j lo hi r u o w l
    obtain ⟨hp, h⟩ := need_some h
    rw [yes_iff] at hp
    obtain ⟨⟨hpc, hpl⟩, ⟨hs, ht, hv⟩, ⟨fi, hw⟩, hwo, hamp, ⟨hre, hta⟩, i0, i1, hlev⟩ := id hp
    obtain ⟨ham1, ham2⟩ := id hamp
    have hol := hpl.1
    refine ⟨by rw [fuelC]; show ((w.L.length : Int) - i.I).toNat < _; omega, ?_⟩
    rw [show roundTK C (mkTab sp3 lp3 sw3) 3 (loopOf C.P 3 31) 0 l3_31 [sh, ta, re, s, t, v, lev, i, p, c, j, lo, hi, r, u, o, w, l] = _ from t3_31 sh ta re s t v lev i p c j lo hi r u o w l]
    obtain ⟨k, hk⟩ : ∃ k : Nat, i.I = k := ⟨i.I.toNat, by omega⟩
    rw [hk] at i0 i1 hlev
    rw [Int.toNat_natCast] at hlev
    have w1 : IntKind.i64.wrap ((k : Int) + 1) = ((k + 1 : Nat) : Int) := wrap_succ (by omega)
    simp only [hk, hs, ht, hv, w1, Int.toNat_natCast, ix_def, rg_ix] at h ⊢
    refine rd_if (fun hlt => ?_) fun hge => rd_out h
    have hlt : k < w.L.length := by omega
    obtain ⟨x0, x1, ⟨hx0, hx1⟩, ⟨hb0, hb1⟩, hsafe⟩ := hlev
    rw [show w.L.length - k = (w.L.length - (k + 1)) + 1 by omega] at hsafe
    simp only [safeFrom] at hsafe
    rw [rg_ix] at hsafe
    obtain ⟨a0, a1⟩ := ham2 k hlt
    obtain ⟨q1, q2, q3⟩ := hpl.2 k (by omega)
    obtain ⟨b1, b2, b3, b4⟩ := betw_rng hpc q1 q2 q3
    have hleg : w.L.getD k [] = legI lo.I hi.I r.L u.L p.L fi o.L k := by rw [hw, legsF_get hlt]
    have hl0 : ix (w.L.getD k []) 0 = (betwV 0 lo.I hi.I r.L u.L p.L (rgI o.L k) (rgI o.L (k + 1))).tdiv 100000 := by rw [hleg]; rfl
    have hl1 : ix (w.L.getD k []) 1 = (betwV 1 lo.I hi.I r.L u.L p.L (rgI o.L k) (rgI o.L (k + 1))).tdiv 100000 + 1 := by rw [hleg]; rfl
    rw [hl0, hl1] at hsafe
    generalize betwV 0 lo.I hi.I r.L u.L p.L (rgI o.L k) (rgI o.L (k + 1)) = A at b2 b3 hsafe ⊢
    generalize betwV 1 lo.I hi.I r.L u.L p.L (rgI o.L k) (rgI o.L (k + 1)) = B at b3 b4 hsafe ⊢
    by_cases n1 : x1 + rgI l.L k > ta.I
    · rw [if_pos n1] at hsafe
      cases hsafe
    rw [if_neg n1] at hsafe
    by_cases n2 : x0 + rgI l.L k - (B.tdiv 100000 + 1) < re.I
    · rw [if_pos n2] at hsafe
      cases hsafe
    rw [if_neg n2] at hsafe
    obtain ⟨d1, d2, d3⟩ := tdiv_nn (a := A) (b := 100000) (by omega) (by omega)
    obtain ⟨d4, d5, d6⟩ := tdiv_nn (a := B) (b := 100000) (by omega) (by omega)
    have w2 : IntKind.i64.wrap (lev.I + rgI l.L k) = lev.I + rgI l.L k := wrap_id (by omega) (by omega)
    have fin : ∀ y : Int, A.tdiv 100000 ≤ y → y ≤ B.tdiv 100000 → RdOK G3_31 (fun ds => (((ds.getD 16 default).L.length : Int) - (ds.getD 7 default).I).toNat) [sh, ta, re, s, t, v, lev, i, p, c, j, lo, hi, r, u, o, w, l] rr
        (T.ite (decide (IntKind.i64.wrap (lev.I + rgI l.L k - y) < re.I)) (T.leaf (Rd.out Ex.ret [D.b false])) (T.leaf (Rd.again [D.l sh.L, D.i ta.I, D.i re.I, D.i (o.L.length : Int), D.i (w.L.length : Int), D.i (l.L.length : Int), D.i (IntKind.i64.wrap (lev.I + rgI l.L k - y)), D.i ((k + 1 : Nat) : Int), D.l p.L, D.l c.L, D.l j.L, D.i lo.I, D.i hi.I, D.l r.L, D.l u.L, D.l o.L, D.l w.L, D.l l.L]))).run := fun y y0 y1 => by
      have w3 : IntKind.i64.wrap (lev.I + rgI l.L k - y) = lev.I + rgI l.L k - y := wrap_id (by omega) (by omega)
      rw [w3]
      refine rd_neg (by omega) (rd_again ((need_yes ⟨⟨hpc, hpl⟩, ⟨rfl, rfl, rfl⟩, ⟨fi, hw⟩, hwo, hamp, ⟨hre, hta⟩, by simp only [I_i]; omega, by simp only [I_i, L_l]; omega, ?_⟩).trans h) (by
        show ((w.L.length : Int) - ((k + 1 : Nat) : Int)).toNat < ((w.L.length : Int) - i.I).toNat
        omega))
      simp only [I_i, L_l, Int.toNat_natCast]
      exact ⟨_, _, ⟨by omega, by omega⟩, ⟨by omega, by omega⟩, hsafe⟩
    refine rd_dec (by omega) (rd_dec (by omega) (rd_dec (by omega) (rd_dec (by omega) (rd_neg (by omega) (rd_neg (by rw [w2]; omega) (rd_if (fun hc => ?_) fun hc => ?_))))))
    · obtain ⟨S0, S1⟩ := share_rng (rgI sh.L k)
      obtain ⟨y, hy, y0, y1, -, -⟩ := burn b2 b3 b4 S0 S1
      refine rd_dec (by omega) (rd_dec (by omega) (rd_dec (by omega) (rd_dec (by omega) (rd_dec (by omega) (rd_yes b1 (rd_false rfl (rd_need rfl (rd_need rfl ?_))))))))
      rw [hy, w2]
      exact fin y y0 y1
    · obtain ⟨y, hy, y0, y1, -, -⟩ := burn b2 b3 b4 (S := 0) (by omega) (by omega)
      refine rd_dec (by omega) (rd_dec (by omega) (rd_dec (by omega) (rd_dec (by omega) (rd_yes b1 (rd_false rfl (rd_need rfl (rd_need rfl ?_)))))))
      rw [hy, w2]
      exact fin y y0 y1
  · cases h
theorem ok10 : FnOK C 12 10 (mkF s10 G10) := by
  refine fn_ofS hC (n := 11) (sp := sp10) (lp := lp10) (sw := sw10) ⟨ok12w 4, ok14w 5, ok41 6, ok42 10, trivial⟩ trivial (by kernel_rfl) [] (by kernel_rfl) rfl (fun k hk => by cases hk) fun ds rr h => ?_
  unfold G10 at h
  split at h
  · refine (congrArg T.run t10).trans ?_
    refine go_need rfl (go_need rfl (go_need rfl (go_yes (by kernel_rfl) (go_need rfl (go_yes (by unfold tankP; kernel_rfl) (go_true rfl (go_need rfl (go_true rfl (go_true rfl (go_true rfl (go_true rfl (go_true rfl (go_true rfl (go_need rfl (go_need rfl (go_yes (by decide) (go_true rfl ?_)))))))))))))))))
    exact h
  · cases h
end Go.Proofs.Ytgoedfonmocafaa
