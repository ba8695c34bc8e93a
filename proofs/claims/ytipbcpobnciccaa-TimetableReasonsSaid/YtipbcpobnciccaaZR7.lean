/-
  What the claim timetable_reasons rests on, part 7.
-/
import Derived.Test.YtipbcpobnciccaaZR6
namespace Go.Proofs.Ytipbcpobnciccaa
open Go.Lite
set_option linter.unusedVariables false
set_option maxRecDepth 100000
theorem t22 (a b c d : D) : fnT C tab22 22 s22 [a, b, c, d] =
  T.need (yes (netP a.I b.L)) (T.need (decide ((0 : Int) ≤ a.I ∧ a.I = a.I ∧ a.I ≤ (2 : Int) ^ 40 ∧ (↑Try.prog.types[4].bytes : Int) * a.I ≤ (2 : Int) ^ 46)) (T.need true (T.need true (T.need (decide ((0 : Int) ≤ (0 : Int) ∧ (0 : Int) < (↑(List.length (List.replicate a.I.toNat [D.b false])) : Int))) (T.need (decide (Int.toNat (0 : Int) < List.length (List.replicate a.I.toNat [D.b false]))) (T.need (yes ((↑0 : Int) = (0 : Int) ∧ okN a.I (allL a.I b.L) c.L ∧ Early a.I (allL a.I b.L) c.L ∧ ((0 : Int) ≤ d.I ∧ d.I < a.I) ∧ (↑(Int.toNat (↑(List.length (allL a.I b.L)) : Int)) : Int) = (↑(List.length (allL a.I b.L)) : Int) ∧ (↑1 : Int) = (1 : Int) ∧ (↑(List.length (List.replicate a.I.toNat [D.b false])) : Int) = a.I ∧ List.set (List.replicate a.I.toNat [D.b false]) (Int.toNat (0 : Int)) (updC (List.getD (List.replicate a.I.toNat [D.b false]) (Int.toNat (0 : Int)) []) [D.b true] 0 0 (List.length [K.bool])) = rowH a.I (allL a.I b.L) c.L 0)) (T.need (yes ((↑0 : Int) = (0 : Int) ∧ okN (c.L.length : Int) (allL a.I b.L) c.L ∧ Early (c.L.length : Int) (allL a.I b.L) c.L ∧ ((0 : Int) ≤ d.I ∧ d.I < (c.L.length : Int)) ∧ (↑(Int.toNat (↑(List.length (allL a.I b.L)) : Int)) : Int) = (↑(List.length (allL a.I b.L)) : Int) ∧ (↑(Int.toNat (↑(List.length (rowsH a.I (allL a.I b.L) c.L (numH a.I (allL a.I b.L) c.L d.I.toNat))) : Int)) : Int) = (↑(List.length (rowsH a.I (allL a.I b.L) c.L (numH a.I (allL a.I b.L) c.L d.I.toNat))) : Int) ∧ (1 ≤ List.length (rowsH a.I (allL a.I b.L) c.L (numH a.I (allL a.I b.L) c.L d.I.toNat)) ∧ List.length (rowsH a.I (allL a.I b.L) c.L (numH a.I (allL a.I b.L) c.L d.I.toNat)) ≤ 600) ∧ rowsH a.I (allL a.I b.L) c.L (numH a.I (allL a.I b.L) c.L d.I.toNat) = rowsH (c.L.length : Int) (allL a.I b.L) c.L (List.length (rowsH a.I (allL a.I b.L) c.L (numH a.I (allL a.I b.L) c.L d.I.toNat)) - 1) ∧ ((0 : Int) ≤ IntKind.wrap IntKind.i64 ((↑(Int.toNat (↑(List.length (rowsH a.I (allL a.I b.L) c.L (numH a.I (allL a.I b.L) c.L d.I.toNat))) : Int)) : Int) - (1 : Int)) ∧ IntKind.wrap IntKind.i64 ((↑(Int.toNat (↑(List.length (rowsH a.I (allL a.I b.L) c.L (numH a.I (allL a.I b.L) c.L d.I.toNat))) : Int)) : Int) - (1 : Int)) < (↑(List.length (rowsH a.I (allL a.I b.L) c.L (numH a.I (allL a.I b.L) c.L d.I.toNat))) : Int)) ∧ hB (rowH (c.L.length : Int) (allL a.I b.L) c.L (Int.toNat (IntKind.wrap IntKind.i64 ((↑(Int.toNat (↑(List.length (rowsH a.I (allL a.I b.L) c.L (numH a.I (allL a.I b.L) c.L d.I.toNat))) : Int)) : Int) - (1 : Int))))) d.I.toNat = true)) (T.ite (decide (IntKind.wrap IntKind.i64 ((↑(Int.toNat (↑(List.length (rowsH a.I (allL a.I b.L) c.L (numH a.I (allL a.I b.L) c.L d.I.toNat))) : Int)) : Int) - (1 : Int)) = (0 : Int))) (T.leaf [D.i 0]) (T.leaf [D.i 1, D.i (↑(Int.toNat (↑(List.length (reaH (c.L.length : Int) (allL a.I b.L) c.L (Int.toNat (IntKind.wrap IntKind.i64 ((↑(Int.toNat (↑(List.length (rowsH a.I (allL a.I b.L) c.L (numH a.I (allL a.I b.L) c.L d.I.toNat))) : Int)) : Int) - (1 : Int)))) d.I)) : Int)) : Int), D.l (reaH (c.L.length : Int) (allL a.I b.L) c.L (Int.toNat (IntKind.wrap IntKind.i64 ((↑(Int.toNat (↑(List.length (rowsH a.I (allL a.I b.L) c.L (numH a.I (allL a.I b.L) c.L d.I.toNat))) : Int)) : Int) - (1 : Int)))) d.I)]))))))))) := by kernel_rfl
theorem t22_4_0 (a b c d e f g h : D) : roundT C tab22 22 (loopOf C.P 22 4) l22_4 [.i 0, a, b, c, d, e, f, g, h] =
  T.need (decide (g.I.toNat ≤ h.L.length)) (T.need (decide ((0 : Int) ≤ IntKind.wrap IntKind.i64 ((e.I.toNat : Int) - (1 : Int)) ∧ IntKind.wrap IntKind.i64 ((e.I.toNat : Int) - (1 : Int)) < (e.I.toNat : Int))) (T.need (decide (Int.toNat (IntKind.wrap IntKind.i64 ((e.I.toNat : Int) - (1 : Int))) < 1)) (T.need (decide ((0 : Int) ≤ c.I ∧ c.I < (↑(List.length (D.L (List.getD (List.getD [[D.l (List.take g.I.toNat h.L)]] (Int.toNat (IntKind.wrap IntKind.i64 ((e.I.toNat : Int) - (1 : Int)))) []) 0 default))) : Int))) (T.ite (!D.B (List.getD (List.getD (D.L (List.getD (List.getD [[D.l (List.take g.I.toNat h.L)]] (Int.toNat (IntKind.wrap IntKind.i64 ((e.I.toNat : Int) - (1 : Int)))) []) 0 default)) c.I.toNat []) 0 default)) (T.need (decide ((0 : Int) ≤ a.I ∧ a.I = a.I ∧ a.I ≤ (2 : Int) ^ 40 ∧ (↑Try.prog.types[4].bytes : Int) * a.I ≤ (2 : Int) ^ 46)) (T.need (yes (okN a.I f.L b.L ∧ (d.I.toNat : Int) = (f.L.length : Int) ∧ (e.I.toNat : Int) = (↑(List.length [[D.l (List.take g.I.toNat h.L)]]) : Int) ∧ (1 ≤ List.length [[D.l (List.take g.I.toNat h.L)]] ∧ List.length [[D.l (List.take g.I.toNat h.L)]] ≤ 1000) ∧ (↑(List.length (List.replicate a.I.toNat [D.b false])) : Int) = a.I ∧ (↑(List.length (List.replicate a.I.toNat [D.b false])) : Int) = a.I ∧ (↑(List.length (rowD [[D.l (List.take g.I.toNat h.L)]] (List.length [[D.l (List.take g.I.toNat h.L)]] - 1))) : Int) = a.I ∧ (0 : Int) ≤ (0 : Int) ∧ (0 : Int) ≤ (f.L.length : Int))) (T.need (decide (a.I.toNat ≤ List.length (passH f.L b.L (rowD [[D.l (List.take g.I.toNat h.L)]] (List.length [[D.l (List.take g.I.toNat h.L)]] - 1)) (Int.toNat (0 : Int)) (f.L.length - Int.toNat (0 : Int)) (List.replicate a.I.toNat [D.b false])))) (T.need true (T.ite false (T.leaf (Rd.again [D.i 1, D.i a.I, D.l b.L, D.i c.I, D.i (↑(Int.toNat (f.L.length : Int)) : Int), D.i 1, D.l f.L, D.l [[D.l (List.take g.I.toNat h.L)]]])) (T.need true (T.leaf (Rd.again [D.i 1, D.i a.I, D.l b.L, D.i c.I, D.i (↑(Int.toNat (f.L.length : Int)) : Int), D.i 2, D.l f.L, D.l [[D.l (List.take g.I.toNat h.L)], [D.l (List.take a.I.toNat (passH f.L b.L (rowD [[D.l (List.take g.I.toNat h.L)]] (List.length [[D.l (List.take g.I.toNat h.L)]] - 1)) (Int.toNat (0 : Int)) (f.L.length - Int.toNat (0 : Int)) (List.replicate a.I.toNat [D.b false])))]]])))))))) (T.leaf (Rd.out (Ex.exit 0) [D.l b.L, D.i c.I, D.i (d.I.toNat : Int), D.i (e.I.toNat : Int), D.l f.L, D.l [[D.l (List.take g.I.toNat h.L)]]])))))) := by kernel_rfl
theorem t22_4_1 (a b c d e f g : D) : roundT C tab22 22 (loopOf C.P 22 4) l22_4 [.i 1, a, b, c, d, e, f, g] =
  T.need (decide ((0 : Int) ≤ IntKind.wrap IntKind.i64 ((e.I.toNat : Int) - (1 : Int)) ∧ IntKind.wrap IntKind.i64 ((e.I.toNat : Int) - (1 : Int)) < (e.I.toNat : Int))) (T.need (decide (Int.toNat (IntKind.wrap IntKind.i64 ((e.I.toNat : Int) - (1 : Int))) < g.L.length)) (T.need (decide ((0 : Int) ≤ c.I ∧ c.I < (↑(List.length (D.L (List.getD (List.getD g.L (Int.toNat (IntKind.wrap IntKind.i64 ((e.I.toNat : Int) - (1 : Int)))) []) 0 default))) : Int))) (T.ite (!D.B (List.getD (List.getD (D.L (List.getD (List.getD g.L (Int.toNat (IntKind.wrap IntKind.i64 ((e.I.toNat : Int) - (1 : Int)))) []) 0 default)) c.I.toNat []) 0 default)) (T.need (decide ((0 : Int) ≤ a.I ∧ a.I = a.I ∧ a.I ≤ (2 : Int) ^ 40 ∧ (↑Try.prog.types[4].bytes : Int) * a.I ≤ (2 : Int) ^ 46)) (T.need (yes (okN a.I f.L b.L ∧ (d.I.toNat : Int) = (f.L.length : Int) ∧ (e.I.toNat : Int) = (g.L.length : Int) ∧ (1 ≤ g.L.length ∧ g.L.length ≤ 1000) ∧ (↑(List.length (List.replicate a.I.toNat [D.b false])) : Int) = a.I ∧ (↑(List.length (List.replicate a.I.toNat [D.b false])) : Int) = a.I ∧ (↑(List.length (rowD g.L (g.L.length - 1))) : Int) = a.I ∧ (0 : Int) ≤ (0 : Int) ∧ (0 : Int) ≤ (f.L.length : Int))) (T.need (decide (a.I.toNat ≤ List.length (passH f.L b.L (rowD g.L (g.L.length - 1)) (Int.toNat (0 : Int)) (f.L.length - Int.toNat (0 : Int)) (List.replicate a.I.toNat [D.b false])))) (T.need true (T.ite false (T.leaf (Rd.again [D.i 1, D.i a.I, D.l b.L, D.i c.I, D.i (↑(Int.toNat (f.L.length : Int)) : Int), D.i (↑(Int.toNat (g.L.length : Int)) : Int), D.l f.L, D.l g.L])) (T.need (decide (Int.toNat (g.L.length : Int) ≤ g.L.length ∧ Int.toNat (g.L.length : Int) + 1 ≤ 2 ^ 62 ∧ (Int.toNat (g.L.length : Int) + 1) * Try.prog.types[83].bytes ≤ 2 ^ 47)) (T.leaf (Rd.again [D.i 1, D.i a.I, D.l b.L, D.i c.I, D.i (↑(Int.toNat (f.L.length : Int)) : Int), D.i (↑(Int.toNat (g.L.length : Int) + 1) : Int), D.l f.L, D.l (List.take (Int.toNat (g.L.length : Int)) g.L ++ List.take (List.length [[D.l (List.take a.I.toNat (passH f.L b.L (rowD g.L (g.L.length - 1)) (Int.toNat (0 : Int)) (f.L.length - Int.toNat (0 : Int)) (List.replicate a.I.toNat [D.b false])))]]) [[D.l (List.take a.I.toNat (passH f.L b.L (rowD g.L (g.L.length - 1)) (Int.toNat (0 : Int)) (f.L.length - Int.toNat (0 : Int)) (List.replicate a.I.toNat [D.b false])))]])])))))))) (T.leaf (Rd.out (Ex.exit 0) [D.l b.L, D.i c.I, D.i (d.I.toNat : Int), D.i (e.I.toNat : Int), D.l f.L, D.l g.L]))))) := by kernel_rfl
theorem t22_7 (a b c d e f g h i j : D) : roundT C tab22 22 (loopOf C.P 22 7) l22_7 [a, b, c, d, e, f, g, h, i, j] =
  T.ite (decide (g.I < (d.I.toNat : Int))) (T.need (decide ((0 : Int) ≤ g.I ∧ g.I < (d.I.toNat : Int))) (T.need (decide (g.I.toNat < h.L.length)) (T.need (decide ((0 : Int) ≤ IntKind.wrap IntKind.i64 ((e.I.toNat : Int) - (1 : Int)) ∧ IntKind.wrap IntKind.i64 ((e.I.toNat : Int) - (1 : Int)) < (e.I.toNat : Int))) (T.need (decide (Int.toNat (IntKind.wrap IntKind.i64 ((e.I.toNat : Int) - (1 : Int))) < i.L.length)) (T.need (decide ((0 : Int) ≤ D.I (List.getD (List.getD h.L g.I.toNat []) 0 default) ∧ D.I (List.getD (List.getD h.L g.I.toNat []) 0 default) < (↑(List.length (D.L (List.getD (List.getD i.L (Int.toNat (IntKind.wrap IntKind.i64 ((e.I.toNat : Int) - (1 : Int)))) []) 0 default))) : Int))) (T.ite (D.B (List.getD (List.getD (D.L (List.getD (List.getD i.L (Int.toNat (IntKind.wrap IntKind.i64 ((e.I.toNat : Int) - (1 : Int)))) []) 0 default)) (Int.toNat (D.I (List.getD (List.getD h.L g.I.toNat []) 0 default))) []) 0 default)) (T.need (decide ((0 : Int) ≤ D.I (List.getD (List.getD h.L g.I.toNat []) 0 default) ∧ D.I (List.getD (List.getD h.L g.I.toNat []) 0 default) < (b.L.length : Int))) (T.need (decide ((0 : Int) ≤ D.I (List.getD (List.getD h.L g.I.toNat []) (0 + 1) default) ∧ D.I (List.getD (List.getD h.L g.I.toNat []) (0 + 1) default) < (b.L.length : Int))) (T.ite (IntKind.wrap IntKind.i64 (D.I (List.getD (List.getD b.L (Int.toNat (D.I (List.getD (List.getD h.L g.I.toNat []) 0 default))) []) 0 default) + D.I (List.getD (List.getD h.L g.I.toNat []) (0 + 1 + 1) default)) == D.I (List.getD (List.getD b.L (Int.toNat (D.I (List.getD (List.getD h.L g.I.toNat []) (0 + 1) default))) []) 0 default)) (T.need (decide ((0 : Int) ≤ D.I (List.getD (List.getD h.L g.I.toNat []) (0 + 1) default) ∧ D.I (List.getD (List.getD h.L g.I.toNat []) (0 + 1) default) < (f.I.toNat : Int))) (T.need (decide (Int.toNat (D.I (List.getD (List.getD h.L g.I.toNat []) (0 + 1) default)) < j.L.length)) (T.leaf (Rd.again [D.i a.I, D.l b.L, D.i c.I, D.i (d.I.toNat : Int), D.i (e.I.toNat : Int), D.i (f.I.toNat : Int), D.i (IntKind.wrap IntKind.i64 (g.I + (1 : Int))), D.l h.L, D.l i.L, D.l (List.set j.L (Int.toNat (D.I (List.getD (List.getD h.L g.I.toNat []) (0 + 1) default))) (updC (List.getD j.L (Int.toNat (D.I (List.getD (List.getD h.L g.I.toNat []) (0 + 1) default))) []) [D.b true] 0 0 (List.length [K.bool])))])))) (T.leaf (Rd.again [D.i a.I, D.l b.L, D.i c.I, D.i (d.I.toNat : Int), D.i (e.I.toNat : Int), D.i (f.I.toNat : Int), D.i (IntKind.wrap IntKind.i64 (g.I + (1 : Int))), D.l h.L, D.l i.L, D.l j.L]))))) (T.leaf (Rd.again [D.i a.I, D.l b.L, D.i c.I, D.i (d.I.toNat : Int), D.i (e.I.toNat : Int), D.i (f.I.toNat : Int), D.i (IntKind.wrap IntKind.i64 (g.I + (1 : Int))), D.l h.L, D.l i.L, D.l j.L])))))))) (T.leaf (Rd.out (Ex.exit 2) [D.i a.I, D.l b.L, D.i c.I, D.i (d.I.toNat : Int), D.i (e.I.toNat : Int), D.i (f.I.toNat : Int), D.l h.L, D.l i.L, D.l j.L])) := by kernel_rfl
theorem t22_15_0 (a b c d e f g : D) : roundT C tab22 22 (loopOf C.P 22 15) l22_15 [.i 0, a, b, c, d, e, f, g] =
  T.ite (decide (e.I > (0 : Int))) (T.need (yes ((↑0 : Int) = (0 : Int) ∧ okN (a.L.length : Int) f.L a.L ∧ ((0 : Int) ≤ b.I ∧ b.I < (a.L.length : Int)) ∧ (c.I.toNat : Int) = (f.L.length : Int) ∧ (d.I.toNat : Int) = (g.L.length : Int) ∧ ((1 : Int) ≤ e.I ∧ e.I < (g.L.length : Int) ∧ e.I ≤ (1000 : Int)) ∧ List.length (rowD g.L (Int.toNat (e.I - (1 : Int)))) = a.L.length ∧ ((0 : Int) ≤ (0 : Int) ∧ (0 : Int) ≤ (f.L.length : Int)) ∧ (0 : Int) ≤ lastH f.L a.L (rowD g.L (Int.toNat (e.I - (1 : Int)))) b.I (0 : Int))) (T.leaf (Rd.again [D.i 1, D.l a.L, D.i (lkF f.L (Int.toNat (lastH f.L a.L (rowD g.L (Int.toNat (e.I - (1 : Int)))) b.I (0 : Int)))), D.i (↑(Int.toNat (f.L.length : Int)) : Int), D.i (↑(Int.toNat (g.L.length : Int)) : Int), D.i 1, D.i (IntKind.wrap IntKind.i64 (e.I - (1 : Int))), D.l f.L, D.l g.L, D.l [[D.i (lastH f.L a.L (rowD g.L (Int.toNat (e.I - (1 : Int)))) b.I (0 : Int))]]]))) (T.leaf (Rd.out (Ex.exit 4) [D.i 0])) := by kernel_rfl
theorem t22_15_1 (a b c d e f g h i : D) : roundT C tab22 22 (loopOf C.P 22 15) l22_15 [.i 1, a, b, c, d, e, f, g, h, i] =
  T.ite (decide (f.I > (0 : Int))) (T.need (yes ((↑(0 + 1) : Int) = (1 : Int) ∧ okN (a.L.length : Int) g.L a.L ∧ ((0 : Int) ≤ b.I ∧ b.I < (a.L.length : Int)) ∧ (c.I.toNat : Int) = (g.L.length : Int) ∧ (d.I.toNat : Int) = (h.L.length : Int) ∧ (e.I.toNat : Int) = (i.L.length : Int) ∧ i.L.length ≤ 1000 ∧ ((1 : Int) ≤ f.I ∧ f.I < (h.L.length : Int) ∧ f.I ≤ (1000 : Int)) ∧ List.length (rowD h.L (Int.toNat (f.I - (1 : Int)))) = a.L.length ∧ ((0 : Int) ≤ (0 : Int) ∧ (0 : Int) ≤ (g.L.length : Int)) ∧ (0 : Int) ≤ lastH g.L a.L (rowD h.L (Int.toNat (f.I - (1 : Int)))) b.I (0 : Int))) (T.leaf (Rd.again [D.i 1, D.l a.L, D.i (lkF g.L (Int.toNat (lastH g.L a.L (rowD h.L (Int.toNat (f.I - (1 : Int)))) b.I (0 : Int)))), D.i (↑(Int.toNat (g.L.length : Int)) : Int), D.i (↑(Int.toNat (h.L.length : Int)) : Int), D.i (↑(Int.toNat (↑(List.length ([D.i (lastH g.L a.L (rowD h.L (Int.toNat (f.I - (1 : Int)))) b.I (0 : Int))] :: i.L)) : Int)) : Int), D.i (IntKind.wrap IntKind.i64 (f.I - (1 : Int))), D.l g.L, D.l h.L, D.l ([D.i (lastH g.L a.L (rowD h.L (Int.toNat (f.I - (1 : Int)))) b.I (0 : Int))] :: i.L)]))) (T.leaf (Rd.out (Ex.exit 4) [D.i 1, D.i (e.I.toNat : Int), D.l i.L])) := by kernel_rfl
theorem t22_18_0 (a b c d e f g h : D) : roundT C tab22 22 (loopOf C.P 22 18) l22_18 [.i 0, a, b, c, d, e, f, g, h] =
  T.ite (decide (f.I < (c.I.toNat : Int))) (T.need (decide ((0 : Int) ≤ f.I ∧ f.I < (c.I.toNat : Int))) (T.need (decide (f.I.toNat < g.L.length)) (T.ite (D.I (List.getD (List.getD g.L f.I.toNat []) (0 + 1) default) == b.I) (T.need (decide ((0 : Int) ≤ IntKind.wrap IntKind.i64 (e.I - (1 : Int)) ∧ IntKind.wrap IntKind.i64 (e.I - (1 : Int)) < (d.I.toNat : Int))) (T.need (decide (Int.toNat (IntKind.wrap IntKind.i64 (e.I - (1 : Int))) < h.L.length)) (T.need (decide ((0 : Int) ≤ D.I (List.getD (List.getD g.L f.I.toNat []) 0 default) ∧ D.I (List.getD (List.getD g.L f.I.toNat []) 0 default) < (↑(List.length (D.L (List.getD (List.getD h.L (Int.toNat (IntKind.wrap IntKind.i64 (e.I - (1 : Int)))) []) 0 default))) : Int))) (T.ite (D.B (List.getD (List.getD (D.L (List.getD (List.getD h.L (Int.toNat (IntKind.wrap IntKind.i64 (e.I - (1 : Int)))) []) 0 default)) (Int.toNat (D.I (List.getD (List.getD g.L f.I.toNat []) 0 default))) []) 0 default)) (T.need (decide ((0 : Int) ≤ D.I (List.getD (List.getD g.L f.I.toNat []) 0 default) ∧ D.I (List.getD (List.getD g.L f.I.toNat []) 0 default) < (a.L.length : Int))) (T.need (decide ((0 : Int) ≤ D.I (List.getD (List.getD g.L f.I.toNat []) (0 + 1) default) ∧ D.I (List.getD (List.getD g.L f.I.toNat []) (0 + 1) default) < (a.L.length : Int))) (T.ite (IntKind.wrap IntKind.i64 (D.I (List.getD (List.getD a.L (Int.toNat (D.I (List.getD (List.getD g.L f.I.toNat []) 0 default))) []) 0 default) + D.I (List.getD (List.getD g.L f.I.toNat []) (0 + 1 + 1) default)) == D.I (List.getD (List.getD a.L (Int.toNat (D.I (List.getD (List.getD g.L f.I.toNat []) (0 + 1) default))) []) 0 default)) (T.ite true (T.leaf (Rd.out (Ex.exit 6) [D.i 0, D.l a.L, D.i (D.I (List.getD (List.getD g.L f.I.toNat []) 0 default)), D.i (c.I.toNat : Int), D.i (d.I.toNat : Int), D.i 1, D.i e.I, D.l g.L, D.l h.L, D.l [[D.i f.I]]])) (T.need true (T.leaf (Rd.out (Ex.exit 6) [D.i 0, D.l a.L, D.i (D.I (List.getD (List.getD g.L f.I.toNat []) 0 default)), D.i (c.I.toNat : Int), D.i (d.I.toNat : Int), D.i 1, D.i e.I, D.l g.L, D.l h.L, D.l [[D.i f.I]]])))) (T.leaf (Rd.again [D.i 0, D.l a.L, D.i b.I, D.i (c.I.toNat : Int), D.i (d.I.toNat : Int), D.i e.I, D.i (IntKind.wrap IntKind.i64 (f.I + (1 : Int))), D.l g.L, D.l h.L]))))) (T.leaf (Rd.again [D.i 0, D.l a.L, D.i b.I, D.i (c.I.toNat : Int), D.i (d.I.toNat : Int), D.i e.I, D.i (IntKind.wrap IntKind.i64 (f.I + (1 : Int))), D.l g.L, D.l h.L])))))) (T.leaf (Rd.again [D.i 0, D.l a.L, D.i b.I, D.i (c.I.toNat : Int), D.i (d.I.toNat : Int), D.i e.I, D.i (IntKind.wrap IntKind.i64 (f.I + (1 : Int))), D.l g.L, D.l h.L]))))) (T.leaf (Rd.out (Ex.exit 6) [D.i 1, D.l a.L, D.i b.I, D.i (c.I.toNat : Int), D.i (d.I.toNat : Int), D.i e.I, D.l g.L, D.l h.L])) := by kernel_rfl
theorem t22_18_1 (a b c d e f g h i j : D) : roundT C tab22 22 (loopOf C.P 22 18) l22_18 [.i 1, a, b, c, d, e, f, g, h, i, j] =
  T.ite (decide (g.I < (c.I.toNat : Int))) (T.need (decide ((0 : Int) ≤ g.I ∧ g.I < (c.I.toNat : Int))) (T.need (decide (g.I.toNat < h.L.length)) (T.ite (D.I (List.getD (List.getD h.L g.I.toNat []) (0 + 1) default) == b.I) (T.need (decide ((0 : Int) ≤ IntKind.wrap IntKind.i64 (f.I - (1 : Int)) ∧ IntKind.wrap IntKind.i64 (f.I - (1 : Int)) < (d.I.toNat : Int))) (T.need (decide (Int.toNat (IntKind.wrap IntKind.i64 (f.I - (1 : Int))) < i.L.length)) (T.need (decide ((0 : Int) ≤ D.I (List.getD (List.getD h.L g.I.toNat []) 0 default) ∧ D.I (List.getD (List.getD h.L g.I.toNat []) 0 default) < (↑(List.length (D.L (List.getD (List.getD i.L (Int.toNat (IntKind.wrap IntKind.i64 (f.I - (1 : Int)))) []) 0 default))) : Int))) (T.ite (D.B (List.getD (List.getD (D.L (List.getD (List.getD i.L (Int.toNat (IntKind.wrap IntKind.i64 (f.I - (1 : Int)))) []) 0 default)) (Int.toNat (D.I (List.getD (List.getD h.L g.I.toNat []) 0 default))) []) 0 default)) (T.need (decide ((0 : Int) ≤ D.I (List.getD (List.getD h.L g.I.toNat []) 0 default) ∧ D.I (List.getD (List.getD h.L g.I.toNat []) 0 default) < (a.L.length : Int))) (T.need (decide ((0 : Int) ≤ D.I (List.getD (List.getD h.L g.I.toNat []) (0 + 1) default) ∧ D.I (List.getD (List.getD h.L g.I.toNat []) (0 + 1) default) < (a.L.length : Int))) (T.ite (IntKind.wrap IntKind.i64 (D.I (List.getD (List.getD a.L (Int.toNat (D.I (List.getD (List.getD h.L g.I.toNat []) 0 default))) []) 0 default) + D.I (List.getD (List.getD h.L g.I.toNat []) (0 + 1 + 1) default)) == D.I (List.getD (List.getD a.L (Int.toNat (D.I (List.getD (List.getD h.L g.I.toNat []) (0 + 1) default))) []) 0 default)) (T.need (decide (e.I.toNat ≤ j.L.length)) (T.ite (List.isEmpty (List.take e.I.toNat j.L)) (T.leaf (Rd.out (Ex.exit 6) [D.i 0, D.l a.L, D.i (D.I (List.getD (List.getD h.L g.I.toNat []) 0 default)), D.i (c.I.toNat : Int), D.i (d.I.toNat : Int), D.i 1, D.i f.I, D.l h.L, D.l i.L, D.l [[D.i g.I]]])) (T.need (decide (List.length [[D.i g.I]] ≤ List.length [[D.i g.I]] ∧ List.length [[D.i g.I]] + List.length (List.take e.I.toNat j.L) ≤ 2 ^ 62 ∧ (List.length [[D.i g.I]] + List.length (List.take e.I.toNat j.L)) * Try.prog.types[3].bytes ≤ 2 ^ 47)) (T.leaf (Rd.out (Ex.exit 6) [D.i 0, D.l a.L, D.i (D.I (List.getD (List.getD h.L g.I.toNat []) 0 default)), D.i (c.I.toNat : Int), D.i (d.I.toNat : Int), D.i (↑(List.length [[D.i g.I]] + List.length (List.take e.I.toNat j.L)) : Int), D.i f.I, D.l h.L, D.l i.L, D.l ([D.i g.I] :: List.append._f [] PUnit.unit (List.take e.I.toNat j.L))]))))) (T.leaf (Rd.again [D.i 1, D.l a.L, D.i b.I, D.i (c.I.toNat : Int), D.i (d.I.toNat : Int), D.i (e.I.toNat : Int), D.i f.I, D.i (IntKind.wrap IntKind.i64 (g.I + (1 : Int))), D.l h.L, D.l i.L, D.l j.L]))))) (T.leaf (Rd.again [D.i 1, D.l a.L, D.i b.I, D.i (c.I.toNat : Int), D.i (d.I.toNat : Int), D.i (e.I.toNat : Int), D.i f.I, D.i (IntKind.wrap IntKind.i64 (g.I + (1 : Int))), D.l h.L, D.l i.L, D.l j.L])))))) (T.leaf (Rd.again [D.i 1, D.l a.L, D.i b.I, D.i (c.I.toNat : Int), D.i (d.I.toNat : Int), D.i (e.I.toNat : Int), D.i f.I, D.i (IntKind.wrap IntKind.i64 (g.I + (1 : Int))), D.l h.L, D.l i.L, D.l j.L]))))) (T.leaf (Rd.out (Ex.exit 6) [D.i 0, D.l a.L, D.i b.I, D.i (c.I.toNat : Int), D.i (d.I.toNat : Int), D.i (e.I.toNat : Int), D.i f.I, D.l h.L, D.l i.L, D.l j.L])) := by kernel_rfl
set_option maxRecDepth 100000
theorem passH_snoc {a t r : List (List D)} {i len : Nat} (h : i < len) (s : List (List D)) : passH a t r i (len - i) s = passH a t r (i + 1) (len - (i + 1)) (stepH a t r i s) := by
  rw [show len - i = (len - (i + 1)) + 1 by omega]
  rfl
theorem ok22_7 (n : Nat) : LoopSim C (n + 1) 22 (loopOf C.P 22 7) (mkL l22_7 G22_7) := by
  refine loop_ofK hC (sp := sp22) (lp := lp22) (sw := sw22) ⟨ok55 n, trivial⟩ trivial 0 [] (by kernel_rfl) rfl (fun k hk => by cases hk) (by kernel_rfl) (fun ds => ((ds.getD 3 default).I - (ds.getD 6 default).I).toNat) fun ds rr h => ?_
  unfold G22_7 at h
  split at h
  · rename_i nn t m c d e i a H r
    obtain ⟨hp, h⟩ := need_some h
    rw [yes_iff] at hp
    obtain ⟨⟨g, hl, hb⟩, hc, hd, ⟨hH1, hH2⟩, he, hr, hR, hi1, hi2⟩ := hp
    obtain ⟨g1, g2, g3, g4⟩ := id g
    have hbig := big_eq
    refine ⟨by rw [fuelC]; simp; omega, ?_⟩
    rw [show roundTK C (mkTab sp22 lp22 sw22) 22 (loopOf C.P 22 7) 0 l22_7 [nn, t, m, c, d, e, i, a, H, r] = _ from t22_7 nn t m c d e i a H r]
    obtain ⟨q, hq⟩ : ∃ q : Nat, i.I = q := ⟨i.I.toNat, by omega⟩
    obtain ⟨z, hz⟩ : ∃ z : Nat, H.L.length = z + 1 := ⟨H.L.length - 1, by omega⟩
    have w1 : IntKind.wrap .i64 (((z + 1 : Nat) : Int) - 1) = (z : Int) := by rw [wrap_id (by omega) (by omega)]; omega
    have eR : (List.getD (List.getD H.L z []) 0 default).L = rowD H.L z := rfl
    simp only [hq, hc, hd, hz, Int.toNat_natCast, w1, eR, Nat.add_sub_cancel] at h hR ⊢
    refine rd_if (fun hlt => ?_) fun hge => rd_out ?_
    · have hql : q < a.L.length := by omega
      obtain ⟨f1, f2, f3⟩ := g4 q hql
      have x0 : (List.getD (List.getD a.L q []) 0 default).I = lkF a.L q := rfl
      have x1 : (List.getD (List.getD a.L q []) (0 + 1) default).I = lkT a.L q := rfl
      have x2 : (List.getD (List.getD a.L q []) (0 + 1 + 1) default).I = lkW a.L q := rfl
      have y0 : ∀ v : Nat, (List.getD (List.getD (rowD H.L z) v []) 0 default).B = hB (rowD H.L z) v := fun _ => rfl
      simp only [x0, x1, x2, y0, rg_def]
      have b1 := hb (lkF a.L q).toNat
      rw [passH_snoc hql] at h
      have again : ∀ s, s = stepH a.L t.L (rowD H.L z) q r.L → RdOK G22_7 (fun ds => ((ds.getD 3 default).I - (ds.getD 6 default).I).toNat) [nn, t, m, c, d, e, i, a, H, r] rr (T.leaf (Rd.again [.i nn.I, .l t.L, .i m.I, .i (a.L.length : Int), .i ((z + 1 : Nat) : Int), .i ((e.I.toNat : Nat) : Int), .i (IntKind.wrap .i64 ((q : Int) + 1)), .l a.L, .l H.L, .l s])).run := fun s hs => by
        subst hs
        rw [wrap_succ (by omega)]
        refine rd_again ((need_yes ⟨⟨g, hl, hb⟩, rfl, hz ▸ rfl, ⟨hH1, hH2⟩, by simp only [I_i]; omega, by simp only [L_l, len_stepH]; exact hr, by simp only [L_l, I_i, hz, Nat.add_sub_cancel]; exact hR, by simp only [I_i]; omega, by simp only [I_i, L_l]; omega⟩).trans ?_) (show ((a.L.length : Int) - ((q + 1 : Nat) : Int)).toNat < (c.I - i.I).toNat by omega)
        rw [← h]
        simp only [L_l, I_i, Int.toNat_natCast, hz, Nat.add_sub_cancel]
      refine rd_dec ⟨by omega, by omega⟩ (rd_dec hql (rd_dec ⟨by omega, by omega⟩ (rd_dec (by omega) (rd_dec ⟨by omega, by omega⟩ (rd_ite (fun c1 => ?_) fun c1 => ?_)))))
      · refine rd_dec ⟨by omega, by omega⟩ (rd_dec ⟨by omega, by omega⟩ ?_)
        rw [wrap_id (by omega) (by omega)]
        refine rd_ite (fun c2 => ?_) fun c2 => ?_
        · refine rd_dec ⟨by omega, by omega⟩ (rd_dec (by omega) (again _ ?_))
          unfold stepH tiB
          rw [c1, c2]
          rfl
        · refine again _ ?_
          unfold stepH tiB
          rw [c1, c2]
          rfl
      · refine again _ ?_
        unfold stepH
        rw [c1]
        rfl
    · rw [← h]
      have e3 : a.L.length - q = 0 := by omega
      have e4 : ((e.I.toNat : Nat) : Int) = nn.I := by omega
      simp only [e3, e4, passH, run_leaf]
  · cases h
set_option maxRecDepth 100000
theorem bytes3n : Try.prog.types[3].bytes = 8 := by kernel_rfl
theorem last_here {a t r : List (List D)} {m : Int} {q : Nat} (h : q < a.length) (e : endH a t r m q = true) : lastH a t r m (q : Int) = q := by
  unfold lastH
  rw [Int.toNat_natCast, show a.length - q = (a.length - (q + 1)) + 1 by omega]
  simp only [firstFrom]
  rw [if_pos e]
theorem last_next {a t r : List (List D)} {m : Int} {q : Nat} (h : q < a.length) (e : endH a t r m q = false) : lastH a t r m (q : Int) = lastH a t r m ((q + 1 : Nat) : Int) := by
  unfold lastH
  rw [Int.toNat_natCast, Int.toNat_natCast, show a.length - q = (a.length - (q + 1)) + 1 by omega]
  simp only [firstFrom]
  rw [if_neg (by rw [e]; decide)]
theorem last_none {a t r : List (List D)} {m : Int} {q : Nat} (h : ¬ q < a.length) : lastH a t r m (q : Int) = -1 := by
  unfold lastH
  rw [Int.toNat_natCast, show a.length - q = 0 by omega]
  rfl
theorem ok22_18 (n : Nat) : LoopSim C (n + 1) 22 (loopOf C.P 22 18) (mkL l22_18 G22_18) := by
  refine loop_ofK hC (sp := sp22) (lp := lp22) (sw := sw22) ⟨ok55 n, trivial⟩ trivial 0 [] (by kernel_rfl) rfl (fun k hk => by cases hk) (by kernel_rfl) (fun ds => ((ds.getD 3 default).I - (if (ds.getD 0 default).I = 0 then (ds.getD 6 default).I else (ds.getD 7 default).I)).toNat) fun ds rr h => ?_
  unfold G22_18 at h
  split at h
  · rename_i j t m c d k i a H
    obtain ⟨hp, h⟩ := need_some h
    rw [yes_iff] at hp
    obtain ⟨hj, ⟨g, hl, hb⟩, hm, hc, hd, hk, hR, hi, hf⟩ := hp
    obtain ⟨g1, g2, g3, g4⟩ := id g
    have hbig := big_eq
    refine ⟨by rw [fuelC]; simp; omega, ?_⟩
    rw [roundTK_head (j := j) (n := 0) hj (by decide), show roundTK C (mkTab sp22 lp22 sw22) 22 (loopOf C.P 22 18) 0 l22_18 [.i 0, t, m, c, d, k, i, a, H] = _ from t22_18_0 t m c d k i a H]
    obtain ⟨q, hq⟩ : ∃ q : Nat, i.I = q := ⟨i.I.toNat, by omega⟩
    obtain ⟨z, hz⟩ : ∃ z : Nat, k.I = (z : Int) + 1 := ⟨(k.I - 1).toNat, by omega⟩
    have w1 : IntKind.wrap .i64 ((z : Int) + 1 - 1) = (z : Int) := by rw [wrap_id (by omega) (by omega)]; omega
    have w2 : ((z : Int) + 1 - 1).toNat = z := by omega
    have eR : (List.getD (List.getD H.L z []) 0 default).L = rowD H.L z := rfl
    have w3 : ∀ x : Int, D.i x = D.i x := fun _ => rfl
    simp only [hq, hc, hd, hz, Int.toNat_natCast, w1, w2, eR] at h hR hf ⊢
    by_cases hql : q < a.L.length
    · refine rd_pos (by omega) ?_
      obtain ⟨f1, f2, f3⟩ := g4 q hql
      have x0 : (List.getD (List.getD a.L q []) 0 default).I = lkF a.L q := rfl
      have x1 : (List.getD (List.getD a.L q []) (0 + 1) default).I = lkT a.L q := rfl
      have x2 : (List.getD (List.getD a.L q []) (0 + 1 + 1) default).I = lkW a.L q := rfl
      have y0 : ∀ v : Nat, (List.getD (List.getD (rowD H.L z) v []) 0 default).B = hB (rowD H.L z) v := fun _ => rfl
      simp only [x0, x1, x2, y0, rg_def]
      have b1 := hb (lkF a.L q).toNat
      have again : endH a.L t.L (rowD H.L z) m.I q = false → RdOK G22_18 (fun ds => ((ds.getD 3 default).I - (if (ds.getD 0 default).I = 0 then (ds.getD 6 default).I else (ds.getD 7 default).I)).toNat) [j, t, m, c, d, k, i, a, H] rr (T.leaf (Rd.again [.i 0, .l t.L, .i m.I, .i (a.L.length : Int), .i (H.L.length : Int), .i ((z : Int) + 1), .i (IntKind.wrap .i64 ((q : Int) + 1)), .l a.L, .l H.L])).run := fun hs => by
        rw [wrap_succ (by omega)]
        rw [last_next hql hs] at h hf
        refine rd_again ((need_yes ⟨rfl, ⟨g, hl, hb⟩, hm, rfl, rfl, by simp only [I_i, L_l]; omega, by simp only [I_i, w2]; exact hR, by simp only [I_i, L_l]; omega, by simp only [I_i, w2]; exact hf⟩).trans ?_) ?_
        · rw [← h]
          simp only [L_l, I_i, w2]
        · simp only [List.getD_cons_zero, List.getD_cons_succ, I_i, if_true, hj, hq, hc]
          omega
      refine rd_dec ⟨by omega, by omega⟩ (rd_dec hql (rd_ite (fun c1 => ?_) fun c1 => ?_))
      · refine rd_dec ⟨by omega, by omega⟩ (rd_dec (by omega) (rd_dec ⟨by omega, by omega⟩ (rd_ite (fun c2 => ?_) fun c2 => ?_)))
        · refine rd_dec ⟨by omega, by omega⟩ (rd_dec ⟨by omega, by omega⟩ ?_)
          rw [wrap_id (by omega) (by omega)]
          refine rd_ite (fun c3 => ?_) fun c3 => ?_
          · refine rd_true rfl (rd_out ?_)
            have e : endH a.L t.L (rowD H.L z) m.I q = true := by
              unfold endH tiB
              rw [c1, c2, c3]
              rfl
            rw [← h, last_here hql e]
            simp only [run_leaf, Int.toNat_natCast]
          · refine again ?_
            unfold endH tiB
            rw [c1, c2, c3]
            rfl
        · refine again ?_
          unfold endH
          rw [c1, c2]
          rfl
      · refine again ?_
        unfold endH
        rw [c1]
        rfl
    · rw [last_none hql] at hf
      omega
  · rename_i j t m c d e k i a H o
    obtain ⟨hp, h⟩ := need_some h
    rw [yes_iff] at hp
    obtain ⟨hj, ⟨g, hl, hb⟩, hm, hc, hd, he, ho, hk, hR, hi, hf⟩ := hp
    obtain ⟨g1, g2, g3, g4⟩ := id g
    have hbig := big_eq
    refine ⟨by rw [fuelC]; simp; omega, ?_⟩
    rw [roundTK_head (j := j) (n := 1) hj (by decide), show roundTK C (mkTab sp22 lp22 sw22) 22 (loopOf C.P 22 18) 0 l22_18 [.i 1, t, m, c, d, e, k, i, a, H, o] = _ from t22_18_1 t m c d e k i a H o]
    obtain ⟨q, hq⟩ : ∃ q : Nat, i.I = q := ⟨i.I.toNat, by omega⟩
    obtain ⟨z, hz⟩ : ∃ z : Nat, k.I = (z : Int) + 1 := ⟨(k.I - 1).toNat, by omega⟩
    have w1 : IntKind.wrap .i64 ((z : Int) + 1 - 1) = (z : Int) := by rw [wrap_id (by omega) (by omega)]; omega
    have w2 : ((z : Int) + 1 - 1).toNat = z := by omega
    have eR : (List.getD (List.getD H.L z []) 0 default).L = rowD H.L z := rfl
    simp only [hq, hc, hd, he, hz, Int.toNat_natCast, w1, w2, eR, List.take_length] at h hR hf ⊢
    by_cases hql : q < a.L.length
    · refine rd_pos (by omega) ?_
      obtain ⟨f1, f2, f3⟩ := g4 q hql
      have x0 : (List.getD (List.getD a.L q []) 0 default).I = lkF a.L q := rfl
      have x1 : (List.getD (List.getD a.L q []) (0 + 1) default).I = lkT a.L q := rfl
      have x2 : (List.getD (List.getD a.L q []) (0 + 1 + 1) default).I = lkW a.L q := rfl
      have y0 : ∀ v : Nat, (List.getD (List.getD (rowD H.L z) v []) 0 default).B = hB (rowD H.L z) v := fun _ => rfl
      simp only [x0, x1, x2, y0, rg_def]
      have b1 := hb (lkF a.L q).toNat
      have again : endH a.L t.L (rowD H.L z) m.I q = false → RdOK G22_18 (fun ds => ((ds.getD 3 default).I - (if (ds.getD 0 default).I = 0 then (ds.getD 6 default).I else (ds.getD 7 default).I)).toNat) [j, t, m, c, d, e, k, i, a, H, o] rr (T.leaf (Rd.again [.i 1, .l t.L, .i m.I, .i (a.L.length : Int), .i (H.L.length : Int), .i (o.L.length : Int), .i ((z : Int) + 1), .i (IntKind.wrap .i64 ((q : Int) + 1)), .l a.L, .l H.L, .l o.L])).run := fun hs => by
        rw [wrap_succ (by omega)]
        rw [last_next hql hs] at h hf
        refine rd_again ((need_yes ⟨rfl, ⟨g, hl, hb⟩, hm, rfl, rfl, rfl, ho, by simp only [I_i, L_l]; omega, by simp only [I_i, w2]; exact hR, by simp only [I_i, L_l]; omega, by simp only [I_i, w2]; exact hf⟩).trans ?_) ?_
        · rw [← h]
          simp only [L_l, I_i, w2]
        · simp only [List.getD_cons_zero, List.getD_cons_succ, I_i, hj, hq, hc]
          rw [if_neg (by decide), if_neg (by decide)]
          omega
      refine rd_dec ⟨by omega, by omega⟩ (rd_dec hql (rd_ite (fun c1 => ?_) fun c1 => ?_))
      · refine rd_dec ⟨by omega, by omega⟩ (rd_dec (by omega) (rd_dec ⟨by omega, by omega⟩ (rd_ite (fun c2 => ?_) fun c2 => ?_)))
        · refine rd_dec ⟨by omega, by omega⟩ (rd_dec ⟨by omega, by omega⟩ ?_)
          rw [wrap_id (by omega) (by omega)]
          refine rd_ite (fun c3 => ?_) fun c3 => ?_
          · have e : endH a.L t.L (rowD H.L z) m.I q = true := by
              unfold endH tiB
              rw [c1, c2, c3]
              rfl
            refine rd_dec (Nat.le_refl _) (rd_ite (fun c4 => rd_out ?_) fun c4 => ?_)
            · have e2 : o.L = [] := by simpa using c4
              rw [← h, last_here hql e, e2]
              rfl
            · refine rd_dec ⟨Nat.le_refl _, by simp only [List.length_cons, List.length_nil]; omega, ?_⟩ (rd_out ?_)
              · simp only [List.length_cons, List.length_nil, bytes3n]
                omega
              · rw [← h, last_here hql e]
                simp only [run_leaf, Int.toNat_natCast, List.length_cons, List.length_nil]
                rw [Nat.add_comm (0 + 1)]
          · refine again ?_
            unfold endH tiB
            rw [c1, c2, c3]
            rfl
        · refine again ?_
          unfold endH
          rw [c1, c2]
          rfl
      · refine again ?_
        unfold endH
        rw [c1]
        rfl
    · rw [last_none hql] at hf
      omega
  · cases h
set_option maxRecDepth 100000
theorem bytes4 : Try.prog.types[4].bytes = 1 := by kernel_rfl
theorem bytes83 : Try.prog.types[83].bytes = 24 := by kernel_rfl
theorem len_rowsH {n : Int} {a t : List (List D)} : ∀ k, (rowsH n a t k).length = k + 1
  | 0 => rfl
  | k + 1 => by
    rw [rowsH, List.length_append, len_rowsH k]
    rfl
theorem rowsH_get {n : Int} {a t : List (List D)} : ∀ k i, i ≤ k → (rowsH n a t k).getD i [] = [.l (rowH n a t i)]
  | 0, i, h => by
    obtain rfl : i = 0 := by omega
    rfl
  | k + 1, i, h => by
    rw [rowsH, List.getD_eq_getElem?_getD]
    by_cases e : i ≤ k
    · rw [List.getElem?_append_left (by rw [len_rowsH]; omega), ← List.getD_eq_getElem?_getD]
      exact rowsH_get k i e
    · obtain rfl : i = k + 1 := by omega
      rw [List.getElem?_append_right (by rw [len_rowsH]; omega), len_rowsH, Nat.sub_self]
      rfl
theorem rowsH_at {n : Int} {a t : List (List D)} {k i : Nat} (h : i ≤ k) : rowD (rowsH n a t k) i = rowH n a t i := by
  unfold rowD
  rw [rowsH_get k i h]
  rfl
theorem last_at (n : Int) (a t : List (List D)) (k : Nat) (m : Int) : lastH a t (rowH n a t k) m 0 = atH n a t k m := rfl
theorem rea_succ (n : Int) (a t : List (List D)) (k : Nat) (m : Int) : reaH n a t (k + 1) m = reaH n a t k (lkF a (atH n a t k m).toNat) ++ [[.i (atH n a t k m)]] := by
  unfold reaH
  rw [backH, List.reverse_cons]
theorem len_rea (n : Int) (a t : List (List D)) (k : Nat) (m : Int) : (reaH n a t k m).length = k := by
  unfold reaH
  rw [List.length_reverse, len_backH]
theorem ok22_15 (n : Nat) : LoopSim C (n + 1) 22 (loopOf C.P 22 15) (mkL l22_15 G22_15) := by
  refine loop_ofK hC (sp := sp22) (lp := lp22) (sw := sw22) ⟨ok55 n, trivial⟩ trivial 0 [18] (by kernel_rfl) (by kernel_rfl) (fun k hk L hL => by simp at hk; subst hk; cases hL; exact ok22_18 n) (by kernel_rfl) (fun ds => (if (ds.getD 0 default).I = 0 then (ds.getD 5 default).I else (ds.getD 6 default).I).toNat) fun ds rr h => ?_
  unfold G22_15 at h
  split at h
  · rename_i j t m c d k a H
    obtain ⟨hp, h⟩ := need_some h
    rw [yes_iff] at hp
    obtain ⟨hj, ok, E, hm, hc, hd, hH, hR, hk, hb⟩ := hp
    have hbig := big_eq
    refine ⟨by rw [fuelC]; simp only [List.getD_cons_zero, List.getD_cons_succ, hj, if_true]; omega, ?_⟩
    rw [roundTK_head (j := j) (n := 0) hj (by decide), show roundTK C (mkTab sp22 lp22 sw22) 22 (loopOf C.P 22 15) 0 l22_15 [.i 0, t, m, c, d, k, a, H] = _ from t22_15_0 t m c d k a H]
    simp only [hc, hd, Int.toNat_natCast] at h ⊢
    refine rd_if (fun hlt => ?_) fun hge => ?_
    · obtain ⟨z, hz⟩ : ∃ z : Nat, k.I = ((z + 1 : Nat) : Int) := ⟨(k.I - 1).toNat, by omega⟩
      have w1 : IntKind.wrap .i64 (((z + 1 : Nat) : Int) - 1) = (z : Int) := by rw [wrap_id (by omega) (by omega)]; omega
      have w2 : (((z + 1 : Nat) : Int) - 1).toNat = z := by omega
      have eR : rowD H.L z = rowH t.L.length a.L t.L z := by
        rw [hR]
        exact rowsH_at (by omega)
      rw [hz, Int.toNat_natCast] at hb
      obtain ⟨⟨b1, b2⟩, b3, b4, b5⟩ := E.at_is hm.1 hm.2 hb
      have hg := (E.good.2.2.2 (atH t.L.length a.L t.L z m.I).toNat (by omega)).1
      simp only [hz, w1, w2, eR, last_at, Int.toNat_natCast] at h ⊢
      refine rd_yes ⟨by trivial, ok, hm, by trivial, by trivial, by omega, by rw [len_rowH]; omega, by omega, b1⟩ (rd_again ((need_yes ⟨rfl, ok, E, by simp only [I_i, L_l]; omega, rfl, rfl, hH, rfl, by simp only [I_i, L_l, List.length_cons, List.length_nil]; omega, hR, by simp only [I_i, L_l]; omega, by simp only [I_i, L_l, Int.toNat_natCast]; exact b4⟩).trans ?_) ?_)
      · rw [run_ite, if_neg (by simp only [decide_eq_true_eq]; omega)] at h
        rw [← h]
        simp only [L_l, I_i, Int.toNat_natCast, rea_succ]
      · simp only [List.getD_cons_zero, List.getD_cons_succ, I_i, hj, hz, if_true]
        rw [if_neg (by decide)]
        omega
    · rw [run_ite, if_pos (by simp only [decide_eq_true_eq]; omega)] at h
      exact rd_out h
  · rename_i j t m c d e k a H o
    obtain ⟨hp, h⟩ := need_some h
    rw [yes_iff] at hp
    obtain ⟨hj, ok, E, hm, hc, hd, hH, he, ho, hR, hk, hb⟩ := hp
    have hbig := big_eq
    refine ⟨by rw [fuelC]; simp only [List.getD_cons_zero, List.getD_cons_succ, hj]; rw [if_neg (by decide)]; omega, ?_⟩
    rw [roundTK_head (j := j) (n := 1) hj (by decide), show roundTK C (mkTab sp22 lp22 sw22) 22 (loopOf C.P 22 15) 0 l22_15 [.i 1, t, m, c, d, e, k, a, H, o] = _ from t22_15_1 t m c d e k a H o]
    simp only [hc, hd, he, Int.toNat_natCast] at h ⊢
    refine rd_if (fun hlt => ?_) fun hge => ?_
    · obtain ⟨z, hz⟩ : ∃ z : Nat, k.I = ((z + 1 : Nat) : Int) := ⟨(k.I - 1).toNat, by omega⟩
      have w1 : IntKind.wrap .i64 (((z + 1 : Nat) : Int) - 1) = (z : Int) := by rw [wrap_id (by omega) (by omega)]; omega
      have w2 : (((z + 1 : Nat) : Int) - 1).toNat = z := by omega
      have eR : rowD H.L z = rowH t.L.length a.L t.L z := by
        rw [hR]
        exact rowsH_at (by omega)
      rw [hz, Int.toNat_natCast] at hb
      obtain ⟨⟨b1, b2⟩, b3, b4, b5⟩ := E.at_is hm.1 hm.2 hb
      have hg := (E.good.2.2.2 (atH t.L.length a.L t.L z m.I).toNat (by omega)).1
      simp only [hz, w1, w2, eR, last_at, Int.toNat_natCast] at h ⊢
      refine rd_yes ⟨by trivial, ok, hm, by trivial, by trivial, by trivial, by omega, by omega, by rw [len_rowH]; omega, by omega, b1⟩ (rd_again ((need_yes ⟨rfl, ok, E, by simp only [I_i, L_l]; omega, rfl, rfl, hH, rfl, by simp only [I_i, L_l, List.length_cons]; omega, hR, by simp only [I_i, L_l]; omega, by simp only [I_i, L_l, Int.toNat_natCast]; exact b4⟩).trans ?_) ?_)
      · rw [← h]
        simp only [L_l, I_i, Int.toNat_natCast, rea_succ, List.append_assoc, List.cons_append, List.nil_append]
      · simp only [List.getD_cons_zero, List.getD_cons_succ, I_i, hj, hz]
        rw [if_neg (by decide), if_neg (by decide)]
        omega
    · refine rd_out ?_
      rw [← h]
      have e0 : k.I.toNat = 0 := by omega
      rw [e0]
      rfl
  · cases h
theorem rowsH_snoc {n : Int} {a t : List (List D)} {H : List (List D)} {z : Nat} (h : H = rowsH n a t z) : H ++ [[.l (rowH n a t (z + 1))]] = rowsH n a t (z + 1) := by
  subst h
  rfl
theorem ok22_4 (n : Nat) : LoopSim C (n + 1) 22 (loopOf C.P 22 4) (mkL l22_4 G22_4) := by
  refine loop_ofK hC (sp := sp22) (lp := lp22) (sw := sw22) ⟨ok55 n, trivial⟩ trivial 0 [7] (by kernel_rfl) (by kernel_rfl) (fun k hk L hL => by simp at hk; subst hk; cases hL; exact ok22_7 n) (by kernel_rfl) (fun ds => numH (ds.getD 1 default).I (ds.getD 6 default).L (ds.getD 2 default).L (ds.getD 3 default).I.toNat + 2 - (if (ds.getD 0 default).I = 0 then 0 else (ds.getD 7 default).L.length)) fun ds rr h => ?_
  unfold G22_4 at h
  split at h
  · rename_i j nn t m c d a H
    obtain ⟨hp, h⟩ := need_some h
    rw [yes_iff] at hp
    obtain ⟨hj, ok, E, hm, hc, hd, hH1, hR, hH2⟩ := hp
    obtain ⟨g, hl, hb⟩ := id ok
    obtain ⟨g1, g2, g3, g4⟩ := id g
    have hbig := big_eq
    obtain ⟨q1, q2, q3⟩ := E.num_is (m := m.I.toNat) (by omega)
    refine ⟨by rw [fuelC]; simp only [List.getD_cons_zero, List.getD_cons_succ, hj]; omega, ?_⟩
    rw [roundTK_head (j := j) (n := 1) hj (by decide), show roundTK C (mkTab sp22 lp22 sw22) 22 (loopOf C.P 22 4) 0 l22_4 [.i 1, nn, t, m, c, d, a, H] = _ from t22_4_1 nn t m c d a H]
    obtain ⟨z, hz⟩ : ∃ z : Nat, H.L.length = z + 1 := ⟨H.L.length - 1, by omega⟩
    have w1 : IntKind.wrap .i64 (((z + 1 : Nat) : Int) - 1) = (z : Int) := by rw [wrap_id (by omega) (by omega)]; omega
    have eR : (List.getD (List.getD H.L z []) 0 default).L = rowH nn.I a.L t.L z := by
      rw [hR, rowsH_get _ _ (by omega)]
      rfl
    have eD : rowD H.L z = rowH nn.I a.L t.L z := eR
    have y0 : ∀ v : Nat, (List.getD (List.getD (rowH nn.I a.L t.L z) v []) 0 default).B = hB (rowH nn.I a.L t.L z) v := fun _ => rfl
    have lR : (rowH nn.I a.L t.L z).length = nn.I.toNat := len_rowH z
    have eP : ∀ s : List (List D), s.length = nn.I.toNat → List.take nn.I.toNat s = s := fun s hs => List.take_of_length_le (by omega)
    rw [hz, Nat.add_sub_cancel] at hR
    have hsn : H.L ++ [[.l (rowH nn.I a.L t.L (z + 1))]] = rowsH nn.I a.L t.L (z + 1) := rowsH_snoc hR
    simp only [hc, hd, hz, Int.toNat_natCast, w1, eR, eD, y0, Nat.add_sub_cancel, bytes4, bytes83, Int.toNat_zero, Nat.sub_zero, show (rowH nn.I a.L t.L (z + 1)) = passH a.L t.L (rowH nn.I a.L t.L z) 0 a.L.length (List.replicate nn.I.toNat [.b false]) from rfl] at h hsn ⊢
    refine rd_dec ⟨by omega, by omega⟩ (rd_dec (by omega) (rd_dec ⟨by omega, by omega⟩ (rd_not (fun c1 => ?_) fun c1 => rd_out ?_)))
    · have hne : z ≠ numH nn.I a.L t.L m.I.toNat := fun e => by
        rw [e, q2] at c1
        cases c1
      have lP : (passH a.L t.L (rowH nn.I a.L t.L z) 0 a.L.length (List.replicate nn.I.toNat [.b false])).length = nn.I.toNat := by rw [len_passH, List.length_replicate]
      have l1 : List.take (z + 1) H.L = H.L := List.take_of_length_le (by omega)
      rw [eP _ lP, l1]
      have e2 : ∀ s : List (List D), List.take (List.length [[D.l s]]) [[D.l s]] = [[D.l s]] := fun _ => rfl
      rw [e2, hsn]
      have hA : (G22_4 [.i 1, .i nn.I, .l t.L, .i m.I, .i (a.L.length : Int), .i ((z + 1 + 1 : Nat) : Int), .l a.L, .l (rowsH nn.I a.L t.L (z + 1))]).run = some rr := by
        refine (need_yes ⟨rfl, ok, E, hm, rfl, ?_, ?_, ?_, ?_⟩).trans ?_
        · rw [← h]
          rfl
        · simp only [I_i, L_l, len_rowsH]
        · simp only [L_l, len_rowsH]
          omega
        · simp only [L_l, I_i, len_rowsH, Nat.add_sub_cancel]
        · simp only [L_l, I_i, len_rowsH]
          omega
      refine rd_dec ⟨by omega, by trivial, by omega, by omega⟩ (rd_yes ⟨ok, by trivial, by trivial, by omega, by rw [List.length_replicate]; omega, by rw [List.length_replicate]; omega, by omega, by omega, by omega⟩ (rd_dec (by omega) (rd_need rfl (rd_false rfl (rd_dec (by omega) (rd_again hA ?_))))))
      show numH nn.I a.L t.L m.I.toNat + 2 - (if (1 : Int) = 0 then 0 else (rowsH nn.I a.L t.L (z + 1)).length) < numH nn.I a.L t.L m.I.toNat + 2 - (if j.I = 0 then 0 else H.L.length)
      rw [len_rowsH, if_neg (by decide), if_neg (by omega), hz]
      omega
    · have he : z = numH nn.I a.L t.L m.I.toNat := by
        apply Classical.byContradiction
        intro hne
        rw [q3 z (by omega)] at c1
        cases c1
      rw [← h, ← he, ← hR, hz]
      rfl
  · rename_i j nn t m c d a x r
    obtain ⟨hp, h⟩ := need_some h
    rw [yes_iff] at hp
    obtain ⟨hj, ok, E, hm, hc, hd, hx, hr⟩ := hp
    obtain ⟨g, hl, hb⟩ := id ok
    obtain ⟨g1, g2, g3, g4⟩ := id g
    have hbig := big_eq
    obtain ⟨q1, q2, q3⟩ := E.num_is (m := m.I.toNat) (by omega)
    refine ⟨by rw [fuelC]; simp only [List.getD_cons_zero, List.getD_cons_succ, hj]; omega, ?_⟩
    rw [roundTK_head (j := j) (n := 0) hj (by decide), show roundTK C (mkTab sp22 lp22 sw22) 22 (loopOf C.P 22 4) 0 l22_4 [.i 0, nn, t, m, c, d, a, x, r] = _ from t22_4_0 nn t m c d a x r]
    have lR : (rowH nn.I a.L t.L 0).length = nn.I.toNat := len_rowH 0
    have eP : ∀ s : List (List D), s.length = nn.I.toNat → List.take nn.I.toNat s = s := fun s hs => List.take_of_length_le (by omega)
    have w1 : IntKind.wrap .i64 ((((1 : Int).toNat : Nat) : Int) - 1) = 0 := by decide
    have w2 : ∀ s : List (List D), (List.getD (List.getD [[D.l s]] 0 []) 0 default).L = s := fun _ => rfl
    have w3 : ∀ s : List (List D), rowD [[D.l s]] 0 = s := fun _ => rfl
    have y0 : ∀ v : Nat, (List.getD (List.getD (rowH nn.I a.L t.L 0) v []) 0 default).B = hB (rowH nn.I a.L t.L 0) v := fun _ => rfl
    have w4 : ∀ s : List D, List.length [s] = 1 := fun _ => rfl
    simp only [hc, hd, hx, hr, Int.toNat_natCast, eP _ lR, w1, Int.toNat_zero, w2, w4, Nat.sub_self, w3, y0, Nat.sub_zero, bytes4] at h ⊢
    refine rd_dec (by omega) (rd_dec (by decide) (rd_dec (by decide) (rd_dec ⟨by omega, by omega⟩ (rd_not (fun c1 => ?_) fun c1 => rd_out ?_))))
    · have hne : 0 ≠ numH nn.I a.L t.L m.I.toNat := fun e => by
        rw [← e] at q2
        rw [q2] at c1
        cases c1
      have lP : (passH a.L t.L (rowH nn.I a.L t.L 0) 0 a.L.length (List.replicate nn.I.toNat [.b false])).length = nn.I.toNat := by rw [len_passH, List.length_replicate]
      rw [eP _ lP]
      have hA : (G22_4 [.i 1, .i nn.I, .l t.L, .i m.I, .i (a.L.length : Int), .i 2, .l a.L, .l [[.l (rowH nn.I a.L t.L 0)], [.l (passH a.L t.L (rowH nn.I a.L t.L 0) 0 a.L.length (List.replicate nn.I.toNat [.b false]))]]]).run = some rr := by
        refine (need_yes ⟨rfl, ok, E, hm, rfl, rfl, ?_, rfl, ?_⟩).trans ?_
        · rw [← h]
          rfl
        · show 1 ≤ 2
          omega
        · show 2 ≤ numH nn.I a.L t.L m.I.toNat + 1
          omega
      refine rd_dec ⟨by omega, by trivial, by omega, by omega⟩ (rd_yes ⟨ok, by trivial, by decide, by decide, by rw [List.length_replicate]; omega, by rw [List.length_replicate]; omega, by omega, by omega, by omega⟩ (rd_dec (by omega) (rd_need rfl (rd_false rfl (rd_need rfl (rd_again hA ?_))))))
      show numH nn.I a.L t.L m.I.toNat + 2 - (if (1 : Int) = 0 then 0 else 2) < numH nn.I a.L t.L m.I.toNat + 2 - (if j.I = 0 then 0 else _)
      rw [if_neg (by decide), if_pos hj]
      omega
    · have he : 0 = numH nn.I a.L t.L m.I.toNat := by
        apply Classical.byContradiction
        intro hne
        rw [q3 0 (by omega)] at c1
        cases c1
      rw [← h, ← he]
      rfl
  · cases h
theorem ok22 (n : Nat) : FnOK C (n + 2) 22 (mkF s22 G22) := by
  refine fn_ofS hC (sp := sp22) (lp := lp22) (sw := sw22) ⟨ok55 n, trivial⟩ trivial (by kernel_rfl) [4, 15] (by kernel_rfl) (by kernel_rfl) (fun k hk L hL => by
    simp at hk
    rcases hk with rfl | rfl <;> cases hL
    · exact ok22_4 n
    · exact ok22_15 n) fun ds rr h => ?_
  unfold G22 at h
  split at h
  · rename_i nn l t m
    obtain ⟨hp, h⟩ := need_some h
    rw [yes_iff] at hp
    obtain ⟨hn, ok, E, hm⟩ := hp
    obtain ⟨g, hl, hb⟩ := id ok
    obtain ⟨g1, g2, g3, g4⟩ := id g
    refine (congrArg T.run (t22 nn l t m)).trans ?_
    obtain ⟨q1, q2, q3⟩ := E.num_is (m := m.I.toNat) (by omega)
    rw [← h]
    have w1 : IntKind.wrap .i64 (((numH nn.I (allL nn.I l.L) t.L m.I.toNat + 1 : Nat) : Int) - 1) = ((numH nn.I (allL nn.I l.L) t.L m.I.toNat : Nat) : Int) := by rw [wrap_id (by omega) (by omega)]; omega
    simp only [Int.toNat_natCast, len_rowsH, List.length_replicate, hl, w1, bytes4]
    refine go_yes hn (go_dec ⟨by omega, by trivial, by omega, by omega⟩ (go_need rfl (go_need rfl (go_dec ⟨by omega, by omega⟩ (go_dec (show 0 < nn.I.toNat by omega) (go_yes ⟨by trivial, ok, E, hm, by trivial, by trivial, by omega, rfl⟩ (go_yes ⟨by trivial, ok, E, hm, by trivial, by trivial, by omega, by rw [Nat.add_sub_cancel], by omega, q2⟩ (go_if (fun c => ?_) fun c => ?_))))))))
    · rw [run_ite, if_pos (by simp only [decide_eq_true_eq]; omega)]
    · rw [run_ite, if_neg (by simp only [decide_eq_true_eq]; omega)]
  · cases h
noncomputable def sp52 : SpL := []
noncomputable def lp52 : LpL := []
noncomputable def sw52 : SwL := []
noncomputable def tab52 : Tab := mkTab sp52 lp52 sw52
noncomputable def sp3051 : SpL := [(52, mkF s52 G52)]
noncomputable def lp3051 : LpL := [(2, mkL l3051_2 G3051_2)]
noncomputable def sw3051 : SwL := []
noncomputable def tab3051 : Tab := mkTab sp3051 lp3051 sw3051
set_option linter.unusedVariables false
set_option maxRecDepth 100000
theorem t52 (a b c d e f g : D) : fnT C tab52 52 s52 [a, b, c, d, e, f, g] =
  T.ite (b.I == d.I) (T.need (decide ((0 : Int) ≤ f.I ∧ f.I < (e.L.length : Int))) (T.need (decide ((0 : Int) ≤ a.I ∧ a.I < (↑(List.length (D.L (List.getD (List.getD e.L f.I.toNat []) 0 default))) : Int))) (T.ite (decide (D.I (List.getD (List.getD (D.L (List.getD (List.getD e.L f.I.toNat []) 0 default)) a.I.toNat []) 0 default) > (-4611686018427387904 : Int))) (T.need (decide ((0 : Int) ≤ f.I ∧ f.I < (e.L.length : Int))) (T.need (decide ((0 : Int) ≤ a.I ∧ a.I < (↑(List.length (D.L (List.getD (List.getD e.L f.I.toNat []) 0 default))) : Int))) (T.leaf [D.b (IntKind.wrap IntKind.i64 (D.I (List.getD (List.getD (D.L (List.getD (List.getD e.L f.I.toNat []) 0 default)) a.I.toNat []) 0 default) + c.I) == g.I)]))) (T.leaf [D.b false])))) (T.leaf [D.b false]) := by kernel_rfl
theorem t3051 (a b c d e : D) : fnT C tab3051 51 s3051 [a, b, c, d, e] =
  T.need (yes (((0 : Int) ≤ d.I ∧ d.I < (c.L.length : Int)) ∧ goodL (↑(List.length (rowD c.L d.I.toNat)) : Int) a.L ∧ upR (rowD c.L d.I.toNat) ∧ (a.L.length : Int) = (a.L.length : Int) ∧ (0 : Int) ≤ (0 : Int) ∧ (0 : Int) ≤ (a.L.length : Int))) (T.ite (decide (firstFrom (endB a.L (rowD c.L d.I.toNat) b.I e.I) (Int.toNat (0 : Int)) (a.L.length - Int.toNat (0 : Int)) ≥ (0 : Int))) (T.leaf [D.i (firstFrom (endB a.L (rowD c.L d.I.toNat) b.I e.I) (Int.toNat (0 : Int)) (a.L.length - Int.toNat (0 : Int)))]) (T.leaf [D.i (-1 : Int)])) := by kernel_rfl
theorem t3051_2 (a b c d e f g : D) : roundT C tab3051 51 (loopOf C.P 51 2) l3051_2 [a, b, c, d, e, f, g] =
  T.ite (decide (g.I < f.I)) (T.need (decide ((0 : Int) ≤ g.I ∧ g.I < (a.L.length : Int))) (T.need (yes (((0 : Int) ≤ d.I ∧ d.I < (c.L.length : Int)) ∧ ((0 : Int) ≤ D.I (List.getD (List.getD a.L g.I.toNat []) 0 default) ∧ D.I (List.getD (List.getD a.L g.I.toNat []) 0 default) < (↑(List.length (rowD c.L d.I.toNat)) : Int)) ∧ upR (rowD c.L d.I.toNat) ∧ (-1000000 : Int) ≤ D.I (List.getD (List.getD a.L g.I.toNat []) (0 + 1 + 1) default) ∧ D.I (List.getD (List.getD a.L g.I.toNat []) (0 + 1 + 1) default) ≤ (1000000 : Int))) (T.ite (D.I (List.getD (List.getD a.L g.I.toNat []) (0 + 1) default) == b.I && (decide (rg (rowD c.L d.I.toNat) (Int.toNat (D.I (List.getD (List.getD a.L g.I.toNat []) 0 default))) > NO) && rg (rowD c.L d.I.toNat) (Int.toNat (D.I (List.getD (List.getD a.L g.I.toNat []) 0 default))) + D.I (List.getD (List.getD a.L g.I.toNat []) (0 + 1 + 1) default) == e.I)) (T.leaf (Rd.out Ex.ret [D.i g.I])) (T.leaf (Rd.again [D.l a.L, D.i b.I, D.l c.L, D.i d.I, D.i e.I, D.i f.I, D.i (IntKind.wrap IntKind.i64 (g.I + (1 : Int)))]))))) (T.leaf (Rd.out (Ex.exit 0) [])) := by kernel_rfl
set_option maxRecDepth 100000
theorem ok52 (n : Nat) : FnOK C (n + 1) 52 (mkF s52 G52) := by
  refine fn_ofS hC (sp := sp52) (lp := lp52) (sw := sw52) trivial trivial (by kernel_rfl) [] (by kernel_rfl) rfl (fun k hk => by cases hk) fun ds rr h => ?_
  unfold G52 at h
  split at h
  · rename_i f t w m r k v
    obtain ⟨hp, h⟩ := need_some h
    rw [yes_iff] at hp
    obtain ⟨h1, h2, h3, h4, h5⟩ := hp
    refine (congrArg T.run (t52 f t w m r k v)).trans ?_
    rw [← h]
    have e : (List.getD (List.getD r.L k.I.toNat []) 0 default).L = rowD r.L k.I.toNat := rfl
    simp only [e, rg_def]
    refine go_ite (fun c => ?_) fun c => by rw [c]; rfl
    rw [c, Bool.true_and]
    refine go_dec h1 (go_dec h2 (go_if (fun c2 => ?_) fun c2 => ?_))
    · have c3 : rg (rowD r.L k.I.toNat) f.I.toNat > NO := c2
      have c4 := h3 f.I.toNat
      rw [decide_eq_true c3, Bool.true_and]
      refine go_dec h1 (go_dec h2 ?_)
      rw [wrap_id (by omega) (by omega)]
    · have c3 : ¬ rg (rowD r.L k.I.toNat) f.I.toNat > NO := c2
      rw [decide_eq_false c3, Bool.false_and]
  · cases h
theorem ok3051_2 (n : Nat) : LoopSim C (n + 1) 51 (loopOf C.P 51 2) (mkL l3051_2 G3051_2) := by
  refine loop_ofK hC (sp := sp3051) (lp := lp3051) (sw := sw3051) ⟨ok52 n, trivial⟩ trivial 0 [] (by kernel_rfl) rfl (fun k hk => by cases hk) (by kernel_rfl) (fun ds => ((ds.getD 5 default).I - (ds.getD 6 default).I).toNat) fun ds rr h => ?_
  unfold G3051_2 at h
  split at h
  · rename_i l m r k v c i
    obtain ⟨hp, h⟩ := need_some h
    rw [yes_iff] at hp
    obtain ⟨h1, ⟨g1, g2, g3, g4⟩, h2, h3, h4, h5⟩ := hp
    have hb := big_eq
    refine ⟨by rw [fuelC]; simp; omega, ?_⟩
    rw [show roundTK C (mkTab sp3051 lp3051 sw3051) 51 (loopOf C.P 51 2) 0 l3051_2 [l, m, r, k, v, c, i] = _ from t3051_2 l m r k v c i]
    obtain ⟨q, hq⟩ : ∃ q : Nat, i.I = q := ⟨i.I.toNat, by omega⟩
    simp only [hq, h3, Int.toNat_natCast] at h h5 ⊢
    refine rd_if (fun hlt => ?_) fun hge => rd_out (first_end h (by omega))
    have hql : q < l.L.length := by omega
    obtain ⟨s1, s2⟩ := first_step h hql
    obtain ⟨f1, f2, f3⟩ := g4 q hql
    refine rd_dec ⟨by omega, by omega⟩ (rd_yes ⟨h1, f1, h2, f3⟩ (rd_ite (fun e => rd_out (s1 e)) fun e => ?_))
    rw [wrap_succ (by omega)]
    exact rd_again ((need_yes ⟨h1, ⟨g1, g2, g3, g4⟩, h2, rfl, by simp only [I_i]; omega, by simp only [I_i, L_l]; omega⟩).trans (s2 e)) (show ((l.L.length : Int) - ((q + 1 : Nat) : Int)).toNat < (c.I - i.I).toNat by omega)
  · cases h
theorem ok3051 (n : Nat) : FnOK C (n + 2) 51 (mkF s3051 G3051) := by
  refine fn_ofS hC (sp := sp3051) (lp := lp3051) (sw := sw3051) ⟨ok52 n, trivial⟩ trivial (by kernel_rfl) [2] (by kernel_rfl) (by kernel_rfl) (fun k hk L hL => by simp at hk; subst hk; cases hL; exact ok3051_2 n) fun ds rr h => ?_
  unfold G3051 at h
  split at h
  · rename_i l m r k v
    obtain ⟨hp, h⟩ := need_some h
    rw [yes_iff] at hp
    obtain ⟨h1, hg, h2⟩ := hp
    refine (congrArg T.run (t3051 l m r k v)).trans ?_
    rw [← h]
    simp only [Int.toNat_zero, Nat.sub_zero]
    refine go_yes ⟨h1, hg, h2, by trivial, by omega, by omega⟩ (go_if (fun c => rfl) fun c => ?_)
    rw [firstFrom_neg (by omega)]
  · cases h
set_option maxRecDepth 100000
theorem set_snoc {α : Type} (x y : α) (p r : List α) : (p ++ y :: r).set p.length x = p ++ x :: r := by
  induction p with
  | nil => rfl
  | cons a p ih => simp only [List.cons_append, List.length_cons, List.set_cons_succ, ih]
theorem fillN_set {n i : Nat} (h : i < n) : (fillN n i).set i [.i NO] = fillN n (i + 1) := by
  unfold fillN
  rw [show n - i = (n - (i + 1)) + 1 by omega, List.replicate_succ]
  have := set_snoc [D.i NO] [D.i 0] (List.replicate i [D.i NO]) (List.replicate (n - (i + 1)) [D.i 0])
  rw [List.length_replicate] at this
  rw [this, List.replicate_succ', List.append_assoc]
  rfl
theorem fillN_all (n : Nat) : fillN n n = List.replicate n [.i NO] := by
  unfold fillN
  rw [Nat.sub_self]
  simp
theorem len_fillN {n i : Nat} (h : i ≤ n) : (fillN n i).length = n := by
  unfold fillN
  rw [List.length_append, List.length_replicate, List.length_replicate]
  omega
theorem fill0_set {n i : Nat} (h1 : 1 ≤ i) (h : i < n) : (fill0 n i).set i [.i NO] = fill0 n (i + 1) := by
  unfold fill0
  obtain ⟨k, rfl⟩ : ∃ k, i = k + 1 := ⟨i - 1, by omega⟩
  rw [List.set_cons_succ, show n - (k + 1) = (n - (k + 1 + 1)) + 1 by omega, List.replicate_succ]
  have := set_snoc [D.i NO] [D.i 0] (List.replicate k [D.i NO]) (List.replicate (n - (k + 1 + 1)) [D.i 0])
  rw [List.length_replicate] at this
  rw [Nat.add_sub_cancel, Nat.add_sub_cancel, this, List.replicate_succ', List.append_assoc]
  rfl
theorem fill0_all {n : Int} {a : List (List D)} : fill0 n.toNat n.toNat = rowW n a 0 := by
  unfold fill0
  rw [Nat.sub_self]
  simp [rowW]
theorem len_fill0 {n i : Nat} (h1 : 1 ≤ i) (h : i ≤ n) : (fill0 n i).length = n := by
  unfold fill0
  rw [List.length_cons, List.length_append, List.length_replicate, List.length_replicate]
  omega
theorem run1053 (n : Nat) (S : Type) (H : Option (Hd S)) (s : S) : callA C (n + 1) S H 53 [.nils] [] s = some (.tup [], [], s) := by kernel_rfl
theorem ok1053 (n : Nat) : FnOKW C (n + 1) 53 (mkFW s1053 G1053) := by
  intro args h v hb hr avs h0 hv hh S H s
  unfold mkFW at hr
  split at hr
  case h_2 => cases hr
  rename_i x y hx hy
  obtain ⟨hv1, -⟩ := fitsVs_sim _ [] hx hv
  obtain ⟨hh1, -⟩ := fitsH_sim _ [] hy hh
  simp only [s1053, headVs, headV, VRL, VR] at hv1
  obtain ⟨a, us, rfl, rfl, rfl⟩ := hv1
  simp only [s1053, headH] at hh1
  obtain rfl : h0 = [] := List.length_eq_zero_iff.1 hh1.1.symm
  rw [T.run_map, Option.map_eq_some_iff] at hr
  obtain ⟨r, hr, he⟩ := hr
  unfold G1053 at hr
  split at hr
  · cases hr
    cases he
    refine ⟨_, _, run1053 n S H s, ?_, rfl, fun i => by simp only [sget, hget, List.getElem?_nil]; trivial⟩
    exact ⟨_, rfl, rfl⟩
  · cases hr
theorem many53 (n : Nat) : FnOKW C (n + 1) 53 (mkFWs [(s53, G53), (s1053, G1053)]) := many_ok ⟨ok53 n, ok1053 n, trivial⟩
theorem all17 (n : Nat) : AllOK C (n + 5) sp17 := ⟨ok47 n, ok48 (n + 4), ok49 (n + 3), ok50 (n + 3), ok3051 (n + 3), trivial⟩
theorem allw17 (n : Nat) : AllOKW C (n + 5) sw17 := ⟨many53 (n + 4), trivial⟩
theorem ok17_9 (q : Nat) : LoopSim C (q + 5) 17 (loopOf C.P 17 9) (mkL l17_9 G17_9) := by
  refine loop_ofK hC (sp := sp17) (lp := lp17) (sw := sw17) (all17 q) (allw17 q) 0 [] (by kernel_rfl) rfl (fun k hk => by cases hk) (by kernel_rfl) (fun ds => ((ds.getD 1 default).I - (ds.getD 3 default).I).toNat) fun ds rr h => ?_
  unfold G17_9 at h
  split at h
  · rename_i j n e i m v c t d a x r
    obtain ⟨hp, h⟩ := need_some h
    rw [yes_iff] at hp
    obtain ⟨hj, hn, hi, hd, hx, hr⟩ := hp
    have hbig := big_eq
    refine ⟨by rw [fuelC]; simp only [List.getD_cons_zero, List.getD_cons_succ]; omega, ?_⟩
    rw [roundTK_head (j := j) (n := 0) hj (by decide), show (roundTK C (mkTab sp17 lp17 sw17) 17 (loopOf C.P 17 9) 0 l17_9 [.i 0, n, e, i, m, v, c, t, d, a, x, r]).run = _ from t17_9_0 n e i m v c t d a x r]
    obtain ⟨z, hz⟩ : ∃ z : Nat, i.I = z := ⟨i.I.toNat, by omega⟩
    obtain ⟨u, hu⟩ : ∃ u : Nat, n.I = u := ⟨n.I.toNat, by omega⟩
    simp only [hz, hu, hd, hx, hr, Int.toNat_natCast, upd1] at h ⊢
    refine rd_if (fun hlt => ?_) fun hge => rd_out ?_
    · refine rd_dec (by omega) (rd_dec ⟨by omega, by omega⟩ (rd_dec (by rw [len_fill0 (by omega) (by omega)]; omega) ?_))
      rw [wrap_succ (by omega), show (-4611686018427387904 : Int) = NO from rfl, fill0_set (by omega) (by omega)]
      refine rd_again ((need_yes ⟨rfl, by simp only [I_i]; omega, by simp only [I_i]; omega, rfl, rfl, by simp only [I_i, L_l, Int.toNat_natCast]⟩).trans ?_) (show ((u : Int) - ((z + 1 : Nat) : Int)).toNat < (n.I - i.I).toNat by omega)
      rw [← h]
      rfl
    · rw [← h]
      have e1 : z = u := by omega
      subst e1
      have e2 := fill0_all (n := n.I) (a := a.L)
      rw [hu, Int.toNat_natCast] at e2
      rw [e2]
      rfl
  · cases h
theorem ok17_15 (q : Nat) : LoopSim C (q + 5) 17 (loopOf C.P 17 15) (mkL l17_15 G17_15) := by
  refine loop_ofK hC (sp := sp17) (lp := lp17) (sw := sw17) (all17 q) (allw17 q) 0 [] (by kernel_rfl) rfl (fun k hk => by cases hk) (by kernel_rfl) (fun ds => ((ds.getD 3 default).I - (ds.getD 4 default).I).toNat) fun ds rr h => ?_
  unfold G17_15 at h
  split at h
  · rename_i n e f w i m v c t d s a R
    obtain ⟨hp, h⟩ := need_some h
    rw [yes_iff] at hp
    obtain ⟨hn, hf, hw, hi, hs⟩ := hp
    have hbig := big_eq
    refine ⟨by rw [fuelC]; simp only [List.getD_cons_zero, List.getD_cons_succ]; omega, ?_⟩
    rw [show (roundTK C (mkTab sp17 lp17 sw17) 17 (loopOf C.P 17 15) 0 l17_15 [n, e, f, w, i, m, v, c, t, d, s, a, R]).run = _ from t17_15 n e f w i m v c t d s a R]
    obtain ⟨z, hz⟩ : ∃ z : Nat, i.I = z := ⟨i.I.toNat, by omega⟩
    obtain ⟨u, hu⟩ : ∃ u : Nat, n.I = u := ⟨n.I.toNat, by omega⟩
    simp only [hf, hw, hz, hu, hs, Int.toNat_natCast, upd1] at h ⊢
    refine rd_if (fun hlt => ?_) fun hge => rd_out ?_
    · refine rd_dec ⟨by omega, by omega⟩ (rd_dec (by rw [len_fillN (by omega)]; omega) ?_)
      rw [wrap_succ (by omega), show (-4611686018427387904 : Int) = NO from rfl, fillN_set (by omega)]
      refine rd_again ((need_yes ⟨by simp only [I_i]; omega, rfl, rfl, by simp only [I_i]; omega, by simp only [I_i, L_l, Int.toNat_natCast]⟩).trans ?_) (show ((u : Int) - ((z + 1 : Nat) : Int)).toNat < (w.I - i.I).toNat by omega)
      rw [← h]
      rfl
    · rw [← h]
      have e1 : z = u := by omega
      subst e1
      rw [fillN_all]
      rfl
  · cases h
theorem passW_snoc {a r : List (List D)} {i len : Nat} (h : i < len) (s : List (List D)) : passW a r i (len - i) s = passW a r (i + 1) (len - (i + 1)) (stepW a r i s) := by
  rw [show len - i = (len - (i + 1)) + 1 by omega]
  rfl
theorem ok17_21 (q : Nat) : LoopSim C (q + 5) 17 (loopOf C.P 17 21) (mkL l17_21 G17_21) := by
  refine loop_ofK hC (sp := sp17) (lp := lp17) (sw := sw17) (all17 q) (allw17 q) 0 [] (by kernel_rfl) rfl (fun k hk => by cases hk) (by kernel_rfl) (fun ds => ((ds.getD 5 default).I - (ds.getD 6 default).I).toNat) fun ds rr h => ?_
  unfold G17_21 at h
  split at h
  · rename_i n e f r g w i m v c t d s a R
    obtain ⟨hp, h⟩ := need_some h
    rw [yes_iff] at hp
    obtain ⟨hg, hu, hr, hgg, hw, hf, hs, hi⟩ := hp
    obtain ⟨g1, g2, g3, g4⟩ := id hg
    have hbig := big_eq
    refine ⟨by rw [fuelC]; simp only [List.getD_cons_zero, List.getD_cons_succ]; omega, ?_⟩
    rw [show (roundTK C (mkTab sp17 lp17 sw17) 17 (loopOf C.P 17 21) 0 l17_21 [n, e, f, r, g, w, i, m, v, c, t, d, s, a, R]).run = _ from t17_21 n e f r g w i m v c t d s a R]
    obtain ⟨z, hz⟩ : ∃ z : Nat, i.I = z := ⟨i.I.toNat, by omega⟩
    simp only [hgg, hw, hf, hz, Int.toNat_natCast, upd1] at h ⊢
    have again : ∀ s', s' = stepW a.L r.L z s.L → z < a.L.length → RdOK G17_21 (fun ds => ((ds.getD 5 default).I - (ds.getD 6 default).I).toNat) [n, e, f, r, g, w, i, m, v, c, t, d, s, a, R] rr (T.leaf (Rd.again [.i n.I, .i ((e.I.toNat : Nat) : Int), .i ((n.I.toNat : Nat) : Int), .l r.L, .i (a.L.length : Int), .i (a.L.length : Int), .i (IntKind.wrap .i64 ((z : Int) + 1)), .i m.I, .i v.I, .i ((c.I.toNat : Nat) : Int), .l t.L, .i ((d.I.toNat : Nat) : Int), .l s', .l a.L, .l R.L])).run := fun s' hs' hlt => by
      subst hs'
      rw [wrap_succ (by omega)]
      rw [passW_snoc hlt] at h
      refine rd_again ((need_yes ⟨hg, hu, hr, rfl, rfl, by simp only [I_i]; omega, by simp only [L_l, len_stepW]; exact hs, by simp only [I_i, L_l]; omega⟩).trans ?_) (show ((a.L.length : Int) - ((z + 1 : Nat) : Int)).toNat < (w.I - i.I).toNat by omega)
      rw [← h]
      simp only [L_l, I_i, Int.toNat_natCast]
    refine rd_if (fun hlt => ?_) fun hge => rd_out ?_
    · have hzl : z < a.L.length := by omega
      obtain ⟨f1, f2, f3⟩ := g4 z hzl
      have x0 : (List.getD (List.getD a.L z []) 0 default).I = lkF a.L z := rfl
      have x1 : (List.getD (List.getD a.L z []) (0 + 1) default).I = lkT a.L z := rfl
      have x2 : (List.getD (List.getD a.L z []) (0 + 1 + 1) default).I = lkW a.L z := rfl
      simp only [x0, x1, x2, rg_def]
      refine rd_dec ⟨by omega, by omega⟩ (rd_dec hzl (rd_dec ⟨by omega, by omega⟩ (rd_if (fun c1 => ?_) fun c1 => ?_)))
      · refine rd_dec ⟨by omega, by omega⟩ (rd_dec (by omega) (rd_dec ⟨by omega, by omega⟩ (rd_dec ⟨by omega, by omega⟩ (rd_dec (by omega) ?_))))
        have b1 := hu (lkF a.L z).toNat
        rw [wrap_id (x := rg r.L (lkF a.L z).toNat + lkW a.L z) (by omega) (by omega)]
        refine again _ ?_ hzl
        unfold stepW
        rw [if_pos (show rg r.L (lkF a.L z).toNat > NO from c1)]
        unfold rs maxI
        rw [max_if]
      · refine again _ ?_ hzl
        unfold stepW
        rw [if_neg (show ¬ rg r.L (lkF a.L z).toNat > NO from c1)]
    · rw [← h]
      have e3 : a.L.length - z = 0 := by omega
      rw [e3]
      rfl
  · cases h
set_option maxRecDepth 100000
theorem bytes25 : Try.prog.types[25].bytes = 24 := by kernel_rfl
theorem len_rowsW {n : Int} {a : List (List D)} : ∀ k, (rowsW n a k).length = k + 1
  | 0 => rfl
  | k + 1 => by
    rw [rowsW, List.length_append, len_rowsW k]
    rfl
theorem rowsW_get {n : Int} {a : List (List D)} : ∀ k i, i ≤ k → (rowsW n a k).getD i [] = [.l (rowW n a i)]
  | 0, i, h => by
    obtain rfl : i = 0 := by omega
    rfl
  | k + 1, i, h => by
    rw [rowsW, List.getD_eq_getElem?_getD]
    by_cases e : i ≤ k
    · rw [List.getElem?_append_left (by rw [len_rowsW]; omega), ← List.getD_eq_getElem?_getD]
      exact rowsW_get k i e
    · obtain rfl : i = k + 1 := by omega
      rw [List.getElem?_append_right (by rw [len_rowsW]; omega), len_rowsW, Nat.sub_self]
      rfl
theorem upR_row {n : Int} {a t : List (List D)} (ok : okN n a t) (E : Early n a t) (k : Nat) : upR (rowW n a k) := fun j => Int.le_trans (E.row_le k j) (ok.2.2 j).2
theorem at_end {n : Int} {a : List (List D)} {k : Nat} {m : Int} : firstFrom (endB a (rowW n a k) m (rg (rowW n a (k + 1)) m.toNat)) 0 a.length = atW n a k m := rfl
theorem someT_row {n : Int} {a : List (List D)} {k : Nat} {m : Int} (h : someT n a k m) (j : Nat) : upR (rowW n a j) := by
  obtain ⟨t, ok, E, -⟩ := h
  exact upR_row ok E j
theorem someT_at {n : Int} {a : List (List D)} {k : Nat} {m : Int} (h0 : 0 ≤ m) (hm : m < n) (h : someT n a (k + 1) m) : (0 ≤ atW n a k m ∧ atW n a k m < a.length) ∧ (0 ≤ lkF a (atW n a k m).toNat ∧ lkF a (atW n a k m).toNat < n) ∧ someT n a k (lkF a (atW n a k m).toNat) := by
  obtain ⟨t, ok, E, hb⟩ := h
  obtain ⟨⟨b1, b2⟩, b3, b4, b5⟩ := E.at_is h0 hm hb
  rw [E.at_eq h0 hm hb]
  exact ⟨⟨b1, b2⟩, (E.good.2.2.2 (atH n a t k m).toNat (by omega)).1, t, ok, E, b4⟩
theorem ok17_29 (q : Nat) : LoopSim C (q + 5) 17 (loopOf C.P 17 29) (mkL l17_29 G17_29) := by
  refine loop_ofK hC (sp := sp17) (lp := lp17) (sw := sw17) (all17 q) (allw17 q) 0 [] (by kernel_rfl) rfl (fun k hk => by cases hk) (by kernel_rfl) (fun ds => (1 + (if (ds.getD 0 default).I = 0 then (ds.getD 5 default).I else (ds.getD 7 default).I)).toNat) fun ds rr h => ?_
  unfold G17_29 at h
  split at h
  · rename_i j m v c d k a R
    obtain ⟨hp, h⟩ := need_some h
    rw [yes_iff] at hp
    obtain ⟨hj, hg, hm, hc, hd, hl, hR, hk, hT⟩ := hp
    obtain ⟨g1, g2, g3, g4⟩ := id hg
    have hbig := big_eq
    refine ⟨by rw [fuelC]; simp only [List.getD_cons_zero, List.getD_cons_succ, hj, if_true]; omega, ?_⟩
    rw [roundTK_head (j := j) (n := 0) hj (by decide), show (roundTK C (mkTab sp17 lp17 sw17) 17 (loopOf C.P 17 29) 0 l17_29 [.i 0, m, v, c, d, k, a, R]).run = _ from t17_29_0 m v c d k a R]
    simp only [hc, hd, Int.toNat_natCast, List.take_length] at h ⊢
    refine rd_if (fun hlt => ?_) fun hge => rd_out ?_
    · obtain ⟨z, hz⟩ : ∃ z : Nat, k.I = (z : Int) := ⟨k.I.toNat, by omega⟩
      have hzl : z + 1 ≤ R.L.length - 1 := by omega
      have w0 : ((z : Int) + 1).toNat = z + 1 := by omega
      rw [hz, w0] at hT
      obtain ⟨⟨b1, b2⟩, ⟨b3, b4⟩, hT'⟩ := someT_at hm.1 hm.2 hT
      have eR : ∀ i, i ≤ R.L.length - 1 → (List.getD (List.getD R.L i []) 0 default).L = rowW v.I a.L i := fun i hi => by
        rw [hR, rowsW_get _ _ hi]
        rfl
      have eD : rowD R.L z = rowW v.I a.L z := eR z (by omega)
      have lR : ∀ i, (rowW v.I a.L i).length = v.I.toNat := fun i => len_rowW g1 i
      simp only [hz, wrap_succ (show z < 9223372036854775807 by omega), Int.toNat_natCast, eR (z + 1) hzl, eD, rg_def, at_end, lR] at h ⊢
      have hA : (G17_29 [.i 1, .i 1, .i (lkF a.L (atW v.I a.L z m.I).toNat), .i v.I, .i (a.L.length : Int), .i (R.L.length : Int), .l [[.i (atW v.I a.L z m.I)]], .i ((z : Int) - 1), .l a.L, .l R.L]).run = some rr := by
        refine (need_yes ⟨rfl, rfl, by simp only [I_i, L_l, List.length_cons, List.length_nil]; omega, hg, ⟨b3, b4⟩, rfl, rfl, hl, hR, by simp only [I_i, L_l]; omega, by simp only [I_i, L_l, Int.sub_add_cancel, Int.toNat_natCast]; exact hT'⟩).trans ?_
        rw [run_ite, if_neg (by simp only [decide_eq_true_eq]; omega)] at h
        rw [← h]
        simp only [I_i, L_l, Int.sub_add_cancel, Int.toNat_natCast, w0, backW]
        rfl
      refine rd_dec ⟨by omega, by omega⟩ (rd_dec (by omega) (rd_dec ⟨by omega, by omega⟩ (rd_dec (Nat.le_refl _) (rd_dec (Nat.le_refl _) (rd_yes ⟨⟨by omega, by omega⟩, by rw [show ((v.I.toNat : Nat) : Int) = v.I by omega]; exact hg, someT_row hT' z⟩ (rd_dec ⟨by omega, by omega⟩ (rd_dec (by omega) ?_)))))))
      rw [wrap_id (x := (z : Int) - 1) (by omega) (by omega)]
      refine rd_again hA ?_
      show (1 + (if (1 : Int) = 0 then _ else ((z : Int) - 1))).toNat < (1 + (if j.I = 0 then k.I else _)).toNat
      rw [if_neg (by decide), if_pos hj]
      omega
    · rw [run_ite, if_pos (by simp only [decide_eq_true_eq]; omega)] at h
      exact h
  · rename_i j z m v c d o k a R
    obtain ⟨hp, h⟩ := need_some h
    rw [yes_iff] at hp
    obtain ⟨hj, hz, ho, hg, hm, hc, hd, hl, hR, hk, hT⟩ := hp
    obtain ⟨g1, g2, g3, g4⟩ := id hg
    have hbig := big_eq
    refine ⟨by rw [fuelC]; simp only [List.getD_cons_zero, List.getD_cons_succ, hj]; rw [if_neg (by decide)]; omega, ?_⟩
    rw [roundTK_head (j := j) (n := 1) hj (by decide), show (roundTK C (mkTab sp17 lp17 sw17) 17 (loopOf C.P 17 29) 0 l17_29 [.i 1, z, m, v, c, d, o, k, a, R]).run = _ from t17_29_1 z m v c d o k a R]
    simp only [hz, hc, hd, Int.toNat_natCast, List.take_length] at h ⊢
    refine rd_if (fun hlt => ?_) fun hge => rd_out ?_
    · obtain ⟨y, hy⟩ : ∃ y : Nat, k.I = (y : Int) := ⟨k.I.toNat, by omega⟩
      have hyl : y + 1 ≤ R.L.length - 1 := by omega
      have w0 : ((y : Int) + 1).toNat = y + 1 := by omega
      rw [hy, w0] at hT
      obtain ⟨⟨b1, b2⟩, ⟨b3, b4⟩, hT'⟩ := someT_at hm.1 hm.2 hT
      have eR : ∀ i, i ≤ R.L.length - 1 → (List.getD (List.getD R.L i []) 0 default).L = rowW v.I a.L i := fun i hi => by
        rw [hR, rowsW_get _ _ hi]
        rfl
      have eD : rowD R.L y = rowW v.I a.L y := eR y (by omega)
      have lR : ∀ i, (rowW v.I a.L i).length = v.I.toNat := fun i => len_rowW g1 i
      have e1 : ∀ x : Int, List.take (List.length [[D.i x]]) [[D.i x]] = [[D.i x]] := fun _ => rfl
      simp only [hy, wrap_succ (show y < 9223372036854775807 by omega), Int.toNat_natCast, eR (y + 1) hyl, eD, rg_def, at_end, lR, bytes3n] at h ⊢
      have hA : (G17_29 [.i 1, .i ((o.L.length + 1 : Nat) : Int), .i (lkF a.L (atW v.I a.L y m.I).toNat), .i v.I, .i (a.L.length : Int), .i (R.L.length : Int), .l (o.L ++ [[.i (atW v.I a.L y m.I)]]), .i ((y : Int) - 1), .l a.L, .l R.L]).run = some rr := by
        refine (need_yes ⟨rfl, by simp only [I_i, L_l, List.length_append, List.length_cons, List.length_nil], by simp only [I_i, L_l, List.length_append, List.length_cons, List.length_nil]; omega, hg, ⟨b3, b4⟩, rfl, rfl, hl, hR, by simp only [I_i, L_l]; omega, by simp only [I_i, L_l, Int.sub_add_cancel, Int.toNat_natCast]; exact hT'⟩).trans ?_
        rw [← h]
        simp only [I_i, L_l, Int.sub_add_cancel, Int.toNat_natCast, w0, backW, List.append_assoc, List.cons_append, List.nil_append]
      refine rd_dec ⟨by omega, by omega⟩ (rd_dec (by omega) (rd_dec ⟨by omega, by omega⟩ (rd_dec (Nat.le_refl _) (rd_dec (Nat.le_refl _) (rd_yes ⟨⟨by omega, by omega⟩, by rw [show ((v.I.toNat : Nat) : Int) = v.I by omega]; exact hg, someT_row hT' y⟩ (rd_dec (by omega) (rd_dec ⟨by omega, by omega⟩ (rd_dec (by omega) ?_))))))))
      rw [wrap_id (x := (y : Int) - 1) (by omega) (by omega)]
      refine rd_again hA ?_
      show (1 + (if (1 : Int) = 0 then _ else ((y : Int) - 1))).toNat < (1 + (if j.I = 0 then _ else k.I)).toNat
      rw [if_neg (by decide), if_neg (by omega)]
      omega
    · rw [← h]
      have e0 : (k.I + 1).toNat = 0 := by omega
      rw [e0]
      simp only [backW, List.append_nil, run_leaf]
  · cases h
set_option maxRecDepth 100000
theorem Early.numW_is {n : Int} {a t : List (List D)} (E : Early n a t) {m : Nat} (hm : m < n.toNat) : numW n a t m < n.toNat ∧ rg (rowW n a (numW n a t m)) m = rg t m ∧ ∀ i, i < numW n a t m → rg (rowW n a i) m ≠ rg t m := by
  rw [E.num_eq hm]
  obtain ⟨a1, a2, a3⟩ := E.num_is hm
  exact ⟨a1, (E.row_iff _ m hm).2 a2, fun i hi h => by
    have := a3 i hi
    rw [(E.row_iff i m hm).1 h] at this
    cases this⟩
theorem fillN_0 (n : Nat) : fillN n 0 = List.replicate n [.i 0] := by
  unfold fillN
  simp
theorem fill0_1 {n : Nat} (h : 1 ≤ n) : fill0 n 1 = List.replicate n [.i 0] := by
  obtain ⟨k, rfl⟩ : ∃ k, n = k + 1 := ⟨n - 1, by omega⟩
  unfold fill0
  simp [List.replicate_succ]
theorem rowsW_snoc {n : Int} {a : List (List D)} {H : List (List D)} {z : Nat} (h : H = rowsW n a z) : H ++ [[.l (rowW n a (z + 1))]] = rowsW n a (z + 1) := by
  subst h
  rfl
theorem ok17_12 (q : Nat) : LoopSim C (q + 5) 17 (loopOf C.P 17 12) (mkL l17_12 G17_12) := by
  refine loop_ofK hC (sp := sp17) (lp := lp17) (sw := sw17) (all17 q) (allw17 q) 0 [15, 21] (by kernel_rfl) (by kernel_rfl) (fun k hk L hL => by
    simp at hk
    rcases hk with rfl | rfl <;> cases hL
    · exact ok17_15 q
    · exact ok17_21 q) (by kernel_rfl) (fun ds => numW (ds.getD 1 default).I (if (ds.getD 0 default).I = 0 then (ds.getD 8 default).L else (ds.getD 8 default).L) (ds.getD 6 default).L (ds.getD 3 default).I.toNat + 2 - (if (ds.getD 0 default).I = 0 then 0 else (ds.getD 9 default).L.length)) fun ds rr h => ?_
  unfold G17_12 at h
  split at h
  · rename_i j n e m v c t d a R
    obtain ⟨hp, h⟩ := need_some h
    rw [yes_iff] at hp
    obtain ⟨hj, ok, E, hm, he, hc, hd, hR1, hR, hR2⟩ := hp
    obtain ⟨g, hl, hb⟩ := id ok
    obtain ⟨g1, g2, g3, g4⟩ := id g
    have hbig := big_eq
    obtain ⟨q1, q2, q3⟩ := E.numW_is (m := m.I.toNat) (by omega)
    refine ⟨by rw [fuelC]; simp only [List.getD_cons_zero, List.getD_cons_succ, hj, ite_self]; omega, ?_⟩
    rw [roundTK_head (j := j) (n := 1) hj (by decide), show (roundTK C (mkTab sp17 lp17 sw17) 17 (loopOf C.P 17 12) 0 l17_12 [.i 1, n, e, m, v, c, t, d, a, R]).run = _ from t17_12_1 n e m v c t d a R]
    obtain ⟨z, hz⟩ : ∃ z : Nat, R.L.length = z + 1 := ⟨R.L.length - 1, by omega⟩
    have w1 : IntKind.wrap .i64 (((z + 1 : Nat) : Int) - 1) = (z : Int) := by rw [wrap_id (by omega) (by omega)]; omega
    rw [hz, Nat.add_sub_cancel] at hR
    have eR : (List.getD (List.getD R.L z []) 0 default).L = rowW n.I a.L z := by
      rw [hR, rowsW_get _ _ (Nat.le_refl _)]
      rfl
    have lR : (rowW n.I a.L z).length = n.I.toNat := len_rowW g1 z
    have hsn : R.L ++ [[.l (rowW n.I a.L (z + 1))]] = rowsW n.I a.L (z + 1) := rowsW_snoc hR
    have l1 : List.take (z + 1) R.L = R.L := List.take_of_length_le (by omega)
    have lP : (rowW n.I a.L (z + 1)).length = n.I.toNat := len_rowW g1 (z + 1)
    have eP : List.take n.I.toNat (rowW n.I a.L (z + 1)) = rowW n.I a.L (z + 1) := List.take_of_length_le (by omega)
    have eW : passW a.L (rowW n.I a.L z) 0 a.L.length (List.replicate n.I.toNat [.i NO]) = rowW n.I a.L (z + 1) := rfl
    have e2 : ∀ s : List (List D), List.take (List.length [[D.l s]]) [[D.l s]] = [[D.l s]] := fun _ => rfl
    simp only [he, hc, hd, hz, Int.toNat_natCast, w1, eR, bytes3, bytes25, Int.toNat_zero, Nat.sub_zero, eW, eP, e2, l1, hsn, lR, rg_def, List.length_replicate] at h ⊢
    refine rd_dec ⟨by omega, by omega⟩ (rd_dec (by omega) (rd_dec ⟨by omega, by omega⟩ (rd_dec ⟨by omega, by omega⟩ (rd_dec (by omega) (rd_ite (fun c1 => ?_) fun c1 => rd_out ?_)))))
    · have hne : z ≠ numW n.I a.L t.L m.I.toNat := fun x => by
        rw [x, q2] at c1
        simp at c1
      have hA : (G17_12 [.i 1, .i n.I, .i ((n.I.toNat : Nat) : Int), .i m.I, .i v.I, .i (a.L.length : Int), .l t.L, .i ((z + 1 + 1 : Nat) : Int), .l a.L, .l (rowsW n.I a.L (z + 1))]).run = some rr := by
        refine (need_yes ⟨rfl, ok, E, hm, by simp only [I_i]; omega, rfl, ?_, ?_, ?_, ?_⟩).trans ?_
        · rw [← h]
          rfl
        · simp only [I_i, L_l, len_rowsW]
        · simp only [L_l, len_rowsW]
          omega
        · simp only [L_l, I_i, len_rowsW, Nat.add_sub_cancel]
        · simp only [L_l, I_i, len_rowsW]
          omega
      refine rd_dec ⟨by omega, by trivial, by omega, by omega⟩ (rd_yes ⟨by omega, by omega, by omega, by omega, (fillN_0 _).symm⟩ (rd_dec ⟨by omega, by omega⟩ (rd_dec (by omega) (rd_yes ⟨g, upR_row ok E z, by omega, by trivial, by trivial, by omega, by omega, by omega, by omega⟩ (rd_dec (by omega) (rd_dec (by omega) (rd_again hA ?_)))))))
      show numW n.I (if (1 : Int) = 0 then a.L else a.L) t.L m.I.toNat + 2 - (if (1 : Int) = 0 then 0 else (rowsW n.I a.L (z + 1)).length) < numW n.I (if j.I = 0 then a.L else a.L) t.L m.I.toNat + 2 - (if j.I = 0 then 0 else R.L.length)
      rw [len_rowsW, ite_self, ite_self, if_neg (by decide), if_neg (by omega), hz]
      omega
    · have hx : z = numW n.I a.L t.L m.I.toNat := by
        apply Classical.byContradiction
        intro hne
        have := q3 z (by omega)
        simp at c1
        exact this c1
      rw [← h, ← hx, ← hR, hz]
      rfl
  · rename_i j n e m v c t d a x r
    obtain ⟨hp, h⟩ := need_some h
    rw [yes_iff] at hp
    obtain ⟨hj, ok, E, hm, he, hc, hd, hx, hr⟩ := hp
    obtain ⟨g, hl, hb⟩ := id ok
    obtain ⟨g1, g2, g3, g4⟩ := id g
    have hbig := big_eq
    obtain ⟨q1, q2, q3⟩ := E.numW_is (m := m.I.toNat) (by omega)
    refine ⟨by rw [fuelC]; simp only [List.getD_cons_zero, List.getD_cons_succ, hj, ite_self]; omega, ?_⟩
    rw [roundTK_head (j := j) (n := 0) hj (by decide), show (roundTK C (mkTab sp17 lp17 sw17) 17 (loopOf C.P 17 12) 0 l17_12 [.i 0, n, e, m, v, c, t, d, a, x, r]).run = _ from t17_12_0 n e m v c t d a x r]
    have lR : (rowW n.I a.L 0).length = n.I.toNat := len_rowW g1 0
    have lP : (rowW n.I a.L 1).length = n.I.toNat := len_rowW g1 1
    have eP0 : List.take n.I.toNat (rowW n.I a.L 0) = rowW n.I a.L 0 := List.take_of_length_le (by omega)
    have eP : List.take n.I.toNat (rowW n.I a.L 1) = rowW n.I a.L 1 := List.take_of_length_le (by omega)
    have eW : passW a.L (rowW n.I a.L 0) 0 a.L.length (List.replicate n.I.toNat [.i NO]) = rowW n.I a.L 1 := rfl
    have e3 : ∀ s : List (List D), List.take 1 [[D.l s]] = [[D.l s]] := fun _ => rfl
    have w0 : (1 : Int).toNat = 1 := rfl
    have w1 : IntKind.wrap .i64 (((1 : Nat) : Int) - 1) = 0 := by decide
    have w2 : ∀ s : List (List D), (List.getD (List.getD [[D.l s]] 0 []) 0 default).L = s := fun _ => rfl
    have w4 : ∀ s : List D, List.length [s] = 1 := fun _ => rfl
    simp only [he, hc, hd, hx, hr, Int.toNat_natCast, w0, w1, w2, w4, eP0, bytes3, bytes25, Int.toNat_zero, Nat.sub_zero, eW, eP, e3, lR, lP, rg_def, List.length_replicate] at h ⊢
    refine rd_dec (by decide) (rd_dec (by decide) (rd_dec ⟨by omega, by omega⟩ (rd_dec (by omega) (rd_dec ⟨by omega, by omega⟩ (rd_dec (by omega) (rd_ite (fun c1 => ?_) fun c1 => rd_out ?_))))))
    · have hne : numW n.I a.L t.L m.I.toNat ≠ 0 := fun y => by
        rw [y] at q2
        rw [q2] at c1
        simp at c1
      rw [run_ite, if_neg (by simpa using hne)] at h
      have hA : (G17_12 [.i 1, .i n.I, .i ((n.I.toNat : Nat) : Int), .i m.I, .i v.I, .i (a.L.length : Int), .l t.L, .i ((1 + 1 : Nat) : Int), .l a.L, .l ([[.l (rowW n.I a.L 0)]] ++ [[.l (rowW n.I a.L 1)]])]).run = some rr := by
        refine (need_yes ⟨rfl, ok, E, hm, by simp only [I_i]; omega, rfl, rfl, ?_, rfl, ?_⟩).trans ?_
        · rw [← h]
          rfl
        · show 1 ≤ 2
          omega
        · show 2 ≤ numW n.I a.L t.L m.I.toNat + 1
          omega
      refine rd_dec (by omega) (rd_dec ⟨by omega, by trivial, by omega, by omega⟩ (rd_yes ⟨by omega, by omega, by omega, by omega, (fillN_0 _).symm⟩ (rd_dec (by decide) (rd_dec (by decide) (rd_yes ⟨g, upR_row ok E 0, by omega, by trivial, by trivial, by omega, by omega, by omega, by omega⟩ (rd_dec (by omega) (rd_dec (by omega) (rd_again hA ?_))))))))
      show numW n.I (if (1 : Int) = 0 then a.L else a.L) t.L m.I.toNat + 2 - (if (1 : Int) = 0 then 0 else 2) < numW n.I (if j.I = 0 then a.L else a.L) t.L m.I.toNat + 2 - (if j.I = 0 then 0 else _)
      rw [ite_self, ite_self, if_neg (by decide), if_pos hj]
      omega
    · have hy : numW n.I a.L t.L m.I.toNat = 0 := by
        apply Classical.byContradiction
        intro hne
        have := q3 0 (by omega)
        simp at c1
        exact this c1
      rw [run_ite, if_pos (by simpa using hy)] at h
      exact h
  · cases h
theorem room_leR {t : List (List D)} {p q : Int} (hq : 0 ≤ p) (h : room t (q + p)) : room t q := by
  obtain ⟨M, h1, h2⟩ := h
  exact ⟨M, h1, by omega⟩
theorem room_roundsR {n : Int} {l : List (List D)} (hl : goodL n l) : ∀ (k : Nat) {s : RSt}, (s.1.length : Int) = n → ∀ {q : Int}, room s.1 (q + l.length * k) → room (roundsR l k s).1 q
  | 0, s, _, q, h => by
    have e : q + (l.length : Int) * ((0 : Nat) : Int) = q := by simp
    rw [e] at h
    exact h
  | k + 1, s, hs, q, h => by
    have e : q + (l.length : Int) * ((k + 1 : Nat) : Int) = q + (l.length : Int) * (k : Int) + (l.length : Int) := by
      rw [show ((k + 1 : Nat) : Int) = (k : Int) + 1 from rfl, Int.mul_add, Int.mul_one, Int.add_assoc]
    rw [e] at h
    have h1 := room_pass hl l.length 0 (by omega) (s := (s.1, s.2.1, -1)) hs h
    simp only [roundsR]
    split
    · exact room_leR (Int.mul_nonneg (by omega) (by omega)) h1
    · exact room_roundsR hl k (by rw [(len_passR l l.length 0 (s.1, s.2.1, -1)).1]; exact hs) h1
theorem ok_early {n : Int} {l : List (List D)} (hn : netP n l) (hr : (pushR n (allL n l) (zeros n)).2.2 < 0) : okN n (allL n l) (earlT n l) := by
  have hl := good_all hn
  obtain ⟨g1, g2, g3, -⟩ := id hl
  have hz := len_zeros n
  have hlen : (earlT n l).length = (zeros n).length := (len_roundsR _ _ _).1
  have h : room (earlT n l) 0 := room_roundsR hl _ (by simp only; omega) (by
    refine ⟨0, fun j => by simp only; rw [rg_zeros]; omega, ?_⟩
    have : ((allL n l).length : Int) * ((n.toNat + 1 : Nat) : Int) ≤ 5500 * 501 := Int.mul_le_mul (by omega) (by omega) (by omega) (by omega)
    omega)
  exact ⟨hl, by omega, fun j => ⟨(early_net hn hr).pos j, (room_rg h (by omega) j).2⟩⟩
theorem len_backW {n : Int} {a : List (List D)} : ∀ (k : Nat) (m : Int), (backW n a k m).length = k
  | 0, _ => rfl
  | k + 1, m => by rw [backW, List.length_cons, len_backW k]
theorem ok17 (q : Nat) : FnOK C (q + 6) 17 (mkF s17 G17) := by
  refine fn_ofS hC (sp := sp17) (lp := lp17) (sw := sw17) (all17 q) (allw17 q) (by kernel_rfl) [9, 12, 29] (by kernel_rfl) (by kernel_rfl) (fun k hk L hL => by
    simp at hk
    rcases hk with rfl | rfl | rfl <;> cases hL
    · exact ok17_9 q
    · exact ok17_12 q
    · exact ok17_29 q) fun ds rr h => ?_
  unfold G17 at h
  split at h
  · rename_i n l m
    obtain ⟨hb, h⟩ := need_some h
    rw [yes_iff] at hb
    refine (t17 n l m).trans ?_
    refine go_yes hb (go_not (fun c1 => ?_) fun c1 => ?_)
    · rw [run_ite, if_neg (by rw [c1]; simp)] at h
      exact h
    have hn : netP n.I l.L := c1
    obtain ⟨n1, n2, n3, n4⟩ := id (good_all hn)
    rw [wrap_id (x := n.I - 1) (by omega) (by omega)]
    refine go_not (fun c2 => ?_) fun c2 => ?_
    · rw [run_ite, if_neg (by rw [c2]; simp)] at h
      exact h
    have hm : 0 ≤ m.I ∧ m.I < n.I := by
      have := Lite.within_iff.1 c2
      omega
    rw [run_ite, if_pos (by rw [c1, c2]; rfl)] at h
    have hla := len_allL n.I l.L
    have et : (pushR n.I (allL n.I l.L) (zeros n.I)).1 = earlT n.I l.L := rfl
    simp only [Int.toNat_natCast, List.take_length, et, len_rowsW, bytes3]
    refine go_yes hn (go_dec (Nat.le_refl _) (go_yes ⟨good_all hn, by omega⟩ (go_if (fun c3 => ?_) fun c3 => ?_)))
    · rw [run_ite, if_pos (decide_eq_true c3)] at h
      have E : Early n.I (allL n.I l.L) (earlT n.I l.L) := early_net hn c3
      have ok := ok_early hn c3
      obtain ⟨q1, q2, q3⟩ := E.numW_is (m := m.I.toNat) (by omega)
      have hT : someT n.I (allL n.I l.L) (numW n.I (allL n.I l.L) (earlT n.I l.L) m.I.toNat) m.I := ⟨_, ok, E, (E.row_iff _ _ (by omega)).1 q2⟩
      have l0 : (rowW n.I (allL n.I l.L) 0).length = n.I.toNat := len_rowW n1 0
      have eP0 : List.take n.I.toNat (rowW n.I (allL n.I l.L) 0) = rowW n.I (allL n.I l.L) 0 := List.take_of_length_le (by omega)
      refine go_dec ⟨by omega, by trivial, by omega, by omega⟩ (go_yes ⟨by trivial, ⟨n1, n2⟩, by omega, by trivial, by rw [List.length_replicate]; omega, (fill0_1 (by omega)).symm⟩ (go_yes ⟨by trivial, ok, E, hm, by omega, by trivial, by decide, by omega, by trivial⟩ (go_if (fun c4 => ?_) fun c4 => ?_)))
      · rw [run_ite, if_pos (decide_eq_true c4)] at h
        rw [c4] at hT
        rw [eP0]
        have w1 : IntKind.wrap .i64 ((((1 : Int).toNat : Nat) : Int) - 2) = -1 := by decide
        rw [w1]
        exact go_dec (by omega) (go_yes ⟨by trivial, good_all hn, hm, by trivial, rfl, ⟨Nat.le_refl 1, show 1 ≤ 600 by decide⟩, rfl, ⟨by decide, show (-1 : Int) < ((1 : Nat) : Int) - 1 by decide⟩, hT⟩ h)
      · rw [run_ite, if_neg (by simpa using c4)] at h
        unfold chainW at h
        generalize numW n.I (allL n.I l.L) (earlT n.I l.L) m.I.toNat = N at *
        have w1 : IntKind.wrap .i64 (((N + 1 : Nat) : Int) - 2) = (N : Int) - 1 := by rw [wrap_id (by omega) (by omega)]; omega
        simp only [w1, Int.sub_add_cancel, Int.toNat_natCast, Nat.add_sub_cancel, len_backW] at h ⊢
        exact go_yes ⟨by trivial, good_all hn, hm, by trivial, by trivial, ⟨by omega, by omega⟩, by trivial, ⟨by omega, by omega⟩, hT⟩ (go_neg (by omega) (go_yes ⟨by trivial, by omega⟩ h))
    · rw [run_ite, if_neg (by simpa using c3)] at h
      exact h
  · cases h
set_option maxRecDepth 100000
noncomputable def kfn : Func := fnAt C.P 16
noncomputable def kbody : Code := bodyOf kfn
def ks0 : St := { tmps := List.replicate 96 .und, h := [] }
def ks1 : St := { tmps := [.bool false, .und, .und, .und, .und, .und, .und, .und, .und, .und, .und, .und, .und, .und, .und, .und, .und, .und, .und, .und, .und, .und, .und, .und, .und, .und, .und, .und, .und, .und, .und, .und, .und, .und, .und, .und, .und, .und, .und, .und, .und, .und, .und, .und, .und, .und, .und, .und, .und, .und, .und, .und, .und, .und, .und, .und, .und, .und, .und, .und, .und, .und, .und, .und, .und, .und, .und, .und, .und, .und, .und, .und, .und, .und, .und, .und, .und, .und, .und, .und, .und, .und, .und, .und, .und, .und, .und, .und, .und, .und, .und, .und, .und, .und, .und, .und], h := [] }
def ks2 : St := { tmps := [.bool false, .sl 1 1 0 3 (some 3), .nils, .int .i64 0, .und, .und, .und, .und, .und, .und, .und, .und, .und, .tup [.sl 1 1 0 3 (some 3), .nils, .int .i64 0], .sl 0 3 0 4 (some 4), .tup [.sl 1 1 0 3 (some 3), .nils, .int .i64 0], .sl 1 1 0 3 (some 3), .nils, .int .i64 0, .und, .und, .und, .und, .und, .und, .und, .und, .und, .und, .und, .und, .und, .und, .und, .und, .und, .und, .und, .und, .und, .und, .und, .und, .und, .und, .und, .und, .und, .und, .und, .und, .und, .und, .und, .und, .und, .und, .und, .und, .und, .und, .und, .und, .und, .und, .und, .und, .und, .und, .und, .und, .und, .und, .und, .und, .und, .und, .und, .und, .und, .und, .und, .und, .und, .und, .und, .und, .und, .und, .und, .und, .und, .und, .und, .und, .und], h := [some (.row 3 [[.int .i64 0, .int .i64 1, .int .i64 5], [.int .i64 1, .int .i64 2, .int .i64 3], [.int .i64 0, .int .i64 2, .int .i64 6], [.int .i64 2, .int .i64 1, .int .i64 (-4)]] true), some (.row 1 [[.int .i64 0], [.int .i64 5], [.int .i64 8]] true)] }
def ks3 : St := { tmps := [.bool false, .sl 1 1 0 3 (some 3), .nils, .int .i64 0, .sl 3 1 0 3 (some 3), .int .i64 0, .und, .und, .und, .und, .und, .und, .und, .tup [.sl 1 1 0 3 (some 3), .nils, .int .i64 0], .sl 0 3 0 4 (some 4), .tup [.sl 1 1 0 3 (some 3), .nils, .int .i64 0], .sl 1 1 0 3 (some 3), .nils, .int .i64 0, .tup [.sl 3 1 0 3 (some 3), .int .i64 0], .sl 2 3 0 4 (some 4), .tup [.sl 3 1 0 3 (some 3), .int .i64 0], .sl 3 1 0 3 (some 3), .int .i64 0, .und, .und, .und, .und, .und, .und, .und, .und, .und, .und, .und, .und, .und, .und, .und, .und, .und, .und, .und, .und, .und, .und, .und, .und, .und, .und, .und, .und, .und, .und, .und, .und, .und, .und, .und, .und, .und, .und, .und, .und, .und, .und, .und, .und, .und, .und, .und, .und, .und, .und, .und, .und, .und, .und, .und, .und, .und, .und, .und, .und, .und, .und, .und, .und, .und, .und, .und, .und, .und, .und, .und, .und], h := [some (.row 3 [[.int .i64 0, .int .i64 1, .int .i64 5], [.int .i64 1, .int .i64 2, .int .i64 3], [.int .i64 0, .int .i64 2, .int .i64 6], [.int .i64 2, .int .i64 1, .int .i64 (-4)]] true), some (.row 1 [[.int .i64 0], [.int .i64 5], [.int .i64 8]] true), some (.row 3 [[.int .i64 0, .int .i64 1, .int .i64 5], [.int .i64 1, .int .i64 2, .int .i64 3], [.int .i64 0, .int .i64 2, .int .i64 6], [.int .i64 2, .int .i64 1, .int .i64 (-4)]] true), some (.row 1 [[.int .i64 0], [.int .i64 17], [.int .i64 20]] true)] }
def ks4 : St := { tmps := [.bool false, .sl 1 1 0 3 (some 3), .nils, .int .i64 0, .sl 3 1 0 3 (some 3), .int .i64 0, .sl 5 1 0 2 none, .int .i64 0, .und, .und, .und, .und, .und, .tup [.sl 1 1 0 3 (some 3), .nils, .int .i64 0], .sl 0 3 0 4 (some 4), .tup [.sl 1 1 0 3 (some 3), .nils, .int .i64 0], .sl 1 1 0 3 (some 3), .nils, .int .i64 0, .tup [.sl 3 1 0 3 (some 3), .int .i64 0], .sl 2 3 0 4 (some 4), .tup [.sl 3 1 0 3 (some 3), .int .i64 0], .sl 3 1 0 3 (some 3), .int .i64 0, .tup [.sl 5 1 0 2 none, .int .i64 0], .sl 4 3 0 4 (some 4), .tup [.sl 5 1 0 2 none, .int .i64 0], .sl 5 1 0 2 none, .int .i64 0, .und, .und, .und, .und, .und, .und, .und, .und, .und, .und, .und, .und, .und, .und, .und, .und, .und, .und, .und, .und, .und, .und, .und, .und, .und, .und, .und, .und, .und, .und, .und, .und, .und, .und, .und, .und, .und, .und, .und, .und, .und, .und, .und, .und, .und, .und, .und, .und, .und, .und, .und, .und, .und, .und, .und, .und, .und, .und, .und, .und, .und, .und, .und, .und, .und, .und, .und], h := [some (.row 3 [[.int .i64 0, .int .i64 1, .int .i64 5], [.int .i64 1, .int .i64 2, .int .i64 3], [.int .i64 0, .int .i64 2, .int .i64 6], [.int .i64 2, .int .i64 1, .int .i64 (-4)]] true), some (.row 1 [[.int .i64 0], [.int .i64 5], [.int .i64 8]] true), some (.row 3 [[.int .i64 0, .int .i64 1, .int .i64 5], [.int .i64 1, .int .i64 2, .int .i64 3], [.int .i64 0, .int .i64 2, .int .i64 6], [.int .i64 2, .int .i64 1, .int .i64 (-4)]] true), some (.row 1 [[.int .i64 0], [.int .i64 17], [.int .i64 20]] true), some (.row 3 [[.int .i64 0, .int .i64 1, .int .i64 5], [.int .i64 1, .int .i64 2, .int .i64 3], [.int .i64 0, .int .i64 2, .int .i64 6], [.int .i64 2, .int .i64 1, .int .i64 (-4)]] true), some (.row 1 [[.int .i64 0], [.int .i64 1]] true)] }
def ks5 : St := { tmps := [.bool false, .sl 1 1 0 3 (some 3), .nils, .int .i64 0, .sl 3 1 0 3 (some 3), .int .i64 0, .sl 5 1 0 2 none, .int .i64 0, .nils, .sl 9 1 0 3 none, .int .i64 5, .und, .und, .tup [.sl 1 1 0 3 (some 3), .nils, .int .i64 0], .sl 0 3 0 4 (some 4), .tup [.sl 1 1 0 3 (some 3), .nils, .int .i64 0], .sl 1 1 0 3 (some 3), .nils, .int .i64 0, .tup [.sl 3 1 0 3 (some 3), .int .i64 0], .sl 2 3 0 4 (some 4), .tup [.sl 3 1 0 3 (some 3), .int .i64 0], .sl 3 1 0 3 (some 3), .int .i64 0, .tup [.sl 5 1 0 2 none, .int .i64 0], .sl 4 3 0 4 (some 4), .tup [.sl 5 1 0 2 none, .int .i64 0], .sl 5 1 0 2 none, .int .i64 0, .tup [.nils, .sl 9 1 0 3 none, .int .i64 5], .sl 6 3 0 4 (some 4), .agg [.int .i64 2, .int .i64 0, .int .i64 (-7)], .sl 7 3 0 1 (some 1), .sl 8 3 0 5 none, .tup [.nils, .sl 9 1 0 3 none, .int .i64 5], .nils, .sl 9 1 0 3 none, .int .i64 5, .und, .und, .und, .und, .und, .und, .und, .und, .und, .und, .und, .und, .und, .und, .und, .und, .und, .und, .und, .und, .und, .und, .und, .und, .und, .und, .und, .und, .und, .und, .und, .und, .und, .und, .und, .und, .und, .und, .und, .und, .und, .und, .und, .und, .und, .und, .und, .und, .und, .und, .und, .und, .und, .und, .und, .und, .und, .und], h := [some (.row 3 [[.int .i64 0, .int .i64 1, .int .i64 5], [.int .i64 1, .int .i64 2, .int .i64 3], [.int .i64 0, .int .i64 2, .int .i64 6], [.int .i64 2, .int .i64 1, .int .i64 (-4)]] true), some (.row 1 [[.int .i64 0], [.int .i64 5], [.int .i64 8]] true), some (.row 3 [[.int .i64 0, .int .i64 1, .int .i64 5], [.int .i64 1, .int .i64 2, .int .i64 3], [.int .i64 0, .int .i64 2, .int .i64 6], [.int .i64 2, .int .i64 1, .int .i64 (-4)]] true), some (.row 1 [[.int .i64 0], [.int .i64 17], [.int .i64 20]] true), some (.row 3 [[.int .i64 0, .int .i64 1, .int .i64 5], [.int .i64 1, .int .i64 2, .int .i64 3], [.int .i64 0, .int .i64 2, .int .i64 6], [.int .i64 2, .int .i64 1, .int .i64 (-4)]] true), some (.row 1 [[.int .i64 0], [.int .i64 1]] true), none, some (.row 3 [[.int .i64 2, .int .i64 0, .int .i64 (-7)]] true), some (.row 3 [[.int .i64 0, .int .i64 1, .int .i64 5], [.int .i64 1, .int .i64 2, .int .i64 3], [.int .i64 0, .int .i64 2, .int .i64 6], [.int .i64 2, .int .i64 1, .int .i64 (-4)], [.int .i64 2, .int .i64 0, .int .i64 (-7)]] true), some (.row 1 [[.int .i64 4], [.int .i64 0], [.int .i64 1]] true)] }
def ks6 : St := { tmps := [.bool false, .sl 1 1 0 3 (some 3), .nils, .int .i64 0, .sl 3 1 0 3 (some 3), .int .i64 0, .sl 5 1 0 2 none, .int .i64 0, .nils, .sl 9 1 0 3 none, .int .i64 5, .ptr 14 4 0 0, .int .i64 0, .tup [.sl 1 1 0 3 (some 3), .nils, .int .i64 0], .sl 0 3 0 4 (some 4), .tup [.sl 1 1 0 3 (some 3), .nils, .int .i64 0], .sl 1 1 0 3 (some 3), .nils, .int .i64 0, .tup [.sl 3 1 0 3 (some 3), .int .i64 0], .sl 2 3 0 4 (some 4), .tup [.sl 3 1 0 3 (some 3), .int .i64 0], .sl 3 1 0 3 (some 3), .int .i64 0, .tup [.sl 5 1 0 2 none, .int .i64 0], .sl 4 3 0 4 (some 4), .tup [.sl 5 1 0 2 none, .int .i64 0], .sl 5 1 0 2 none, .int .i64 0, .tup [.nils, .sl 9 1 0 3 none, .int .i64 5], .sl 6 3 0 4 (some 4), .agg [.int .i64 2, .int .i64 0, .int .i64 (-7)], .sl 7 3 0 1 (some 1), .sl 8 3 0 5 none, .tup [.nils, .sl 9 1 0 3 none, .int .i64 5], .nils, .sl 9 1 0 3 none, .int .i64 5, .tup [.agg [.sl 10 1 1 3 (some 3), .sl 11 1 0 2 none, .sl 12 1 0 2 none, .sl 13 1 0 2 none], .int .i64 0], .agg [.int .i64 3, .int .i64 100, .ro .g true 8 [[.int .i64 20, .int .i64 30, .int .i64 10, .int .i64 2, .bool false, .int .i64 0, .int .i64 0, .ro .g true 3 [[.int .i64 60, .int .i64 200, .int .i64 70]]], [.int .i64 15, .int .i64 0, .int .i64 0, .int .i64 2, .bool true, .int .i64 5, .int .i64 30, .nils]]], .tup [.agg [.sl 10 1 1 3 (some 3), .sl 11 1 0 2 none, .sl 12 1 0 2 none, .sl 13 1 0 2 none], .int .i64 0], .agg [.sl 10 1 1 3 (some 3), .sl 11 1 0 2 none, .sl 12 1 0 2 none, .sl 13 1 0 2 none], .int .i64 0, .und, .und, .und, .und, .und, .und, .und, .und, .und, .und, .und, .und, .und, .und, .und, .und, .und, .und, .und, .und, .und, .und, .und, .und, .und, .und, .und, .und, .und, .und, .und, .und, .und, .und, .und, .und, .und, .und, .und, .und, .und, .und, .und, .und, .und, .und, .und, .und, .und, .und, .und, .und, .und], h := [some (.row 3 [[.int .i64 0, .int .i64 1, .int .i64 5], [.int .i64 1, .int .i64 2, .int .i64 3], [.int .i64 0, .int .i64 2, .int .i64 6], [.int .i64 2, .int .i64 1, .int .i64 (-4)]] true), some (.row 1 [[.int .i64 0], [.int .i64 5], [.int .i64 8]] true), some (.row 3 [[.int .i64 0, .int .i64 1, .int .i64 5], [.int .i64 1, .int .i64 2, .int .i64 3], [.int .i64 0, .int .i64 2, .int .i64 6], [.int .i64 2, .int .i64 1, .int .i64 (-4)]] true), some (.row 1 [[.int .i64 0], [.int .i64 17], [.int .i64 20]] true), some (.row 3 [[.int .i64 0, .int .i64 1, .int .i64 5], [.int .i64 1, .int .i64 2, .int .i64 3], [.int .i64 0, .int .i64 2, .int .i64 6], [.int .i64 2, .int .i64 1, .int .i64 (-4)]] true), some (.row 1 [[.int .i64 0], [.int .i64 1]] true), none, some (.row 3 [[.int .i64 2, .int .i64 0, .int .i64 (-7)]] true), some (.row 3 [[.int .i64 0, .int .i64 1, .int .i64 5], [.int .i64 1, .int .i64 2, .int .i64 3], [.int .i64 0, .int .i64 2, .int .i64 6], [.int .i64 2, .int .i64 1, .int .i64 (-4)], [.int .i64 2, .int .i64 0, .int .i64 (-7)]] true), some (.row 1 [[.int .i64 4], [.int .i64 0], [.int .i64 1]] true), some (.row 1 [[.int .i64 0], [.int .i64 100], [.int .i64 129], [.int .i64 144]] true), some (.row 1 [[.int .i64 70], [.int .i64 129]] true), some (.row 1 [[.int .i64 134], [.int .i64 148]] true), some (.row 1 [[.int .i64 0], [.int .i64 (-1)]] true), some (.row 4 [[.sl 10 1 1 3 (some 3), .sl 11 1 0 2 none, .sl 12 1 0 2 none, .sl 13 1 0 2 none]] false)] }
def ks7 : St := { tmps := [.bool false, .sl 1 1 0 3 (some 3), .nils, .int .i64 0, .sl 3 1 0 3 (some 3), .int .i64 0, .sl 5 1 0 2 none, .int .i64 0, .nils, .sl 9 1 0 3 none, .int .i64 5, .ptr 14 4 0 0, .int .i64 0, .tup [.sl 1 1 0 3 (some 3), .nils, .int .i64 0], .sl 0 3 0 4 (some 4), .tup [.sl 1 1 0 3 (some 3), .nils, .int .i64 0], .sl 1 1 0 3 (some 3), .nils, .int .i64 0, .tup [.sl 3 1 0 3 (some 3), .int .i64 0], .sl 2 3 0 4 (some 4), .tup [.sl 3 1 0 3 (some 3), .int .i64 0], .sl 3 1 0 3 (some 3), .int .i64 0, .tup [.sl 5 1 0 2 none, .int .i64 0], .sl 4 3 0 4 (some 4), .tup [.sl 5 1 0 2 none, .int .i64 0], .sl 5 1 0 2 none, .int .i64 0, .tup [.nils, .sl 9 1 0 3 none, .int .i64 5], .sl 6 3 0 4 (some 4), .agg [.int .i64 2, .int .i64 0, .int .i64 (-7)], .sl 7 3 0 1 (some 1), .sl 8 3 0 5 none, .tup [.nils, .sl 9 1 0 3 none, .int .i64 5], .nils, .sl 9 1 0 3 none, .int .i64 5, .tup [.agg [.sl 10 1 1 3 (some 3), .sl 11 1 0 2 none, .sl 12 1 0 2 none, .sl 13 1 0 2 none], .int .i64 0], .agg [.int .i64 3, .int .i64 100, .ro .g true 8 [[.int .i64 20, .int .i64 30, .int .i64 10, .int .i64 2, .bool false, .int .i64 0, .int .i64 0, .ro .g true 3 [[.int .i64 60, .int .i64 200, .int .i64 70]]], [.int .i64 15, .int .i64 0, .int .i64 0, .int .i64 2, .bool true, .int .i64 5, .int .i64 30, .nils]]], .tup [.agg [.sl 10 1 1 3 (some 3), .sl 11 1 0 2 none, .sl 12 1 0 2 none, .sl 13 1 0 2 none], .int .i64 0], .agg [.sl 10 1 1 3 (some 3), .sl 11 1 0 2 none, .sl 12 1 0 2 none, .sl 13 1 0 2 none], .int .i64 0, .int .i64 0, .bool false, .bool false, .int .i64 0, .bool false, .bool false, .bool false, .int .i64 0, .bool false, .bool false, .bool false, .int .i64 5, .bool false, .bool false, .bool false, .int .i64 0, .bool false, .bool false, .bool false, .nils, .int .i64 0, .bool false, .bool false, .und, .und, .und, .und, .und, .und, .und, .und, .und, .und, .und, .und, .und, .und, .und, .und, .und, .und, .und, .und, .und, .und, .und, .und, .und, .und, .und, .und, .und, .und], h := [some (.row 3 [[.int .i64 0, .int .i64 1, .int .i64 5], [.int .i64 1, .int .i64 2, .int .i64 3], [.int .i64 0, .int .i64 2, .int .i64 6], [.int .i64 2, .int .i64 1, .int .i64 (-4)]] true), some (.row 1 [[.int .i64 0], [.int .i64 5], [.int .i64 8]] true), some (.row 3 [[.int .i64 0, .int .i64 1, .int .i64 5], [.int .i64 1, .int .i64 2, .int .i64 3], [.int .i64 0, .int .i64 2, .int .i64 6], [.int .i64 2, .int .i64 1, .int .i64 (-4)]] true), some (.row 1 [[.int .i64 0], [.int .i64 17], [.int .i64 20]] true), some (.row 3 [[.int .i64 0, .int .i64 1, .int .i64 5], [.int .i64 1, .int .i64 2, .int .i64 3], [.int .i64 0, .int .i64 2, .int .i64 6], [.int .i64 2, .int .i64 1, .int .i64 (-4)]] true), some (.row 1 [[.int .i64 0], [.int .i64 1]] true), none, some (.row 3 [[.int .i64 2, .int .i64 0, .int .i64 (-7)]] true), some (.row 3 [[.int .i64 0, .int .i64 1, .int .i64 5], [.int .i64 1, .int .i64 2, .int .i64 3], [.int .i64 0, .int .i64 2, .int .i64 6], [.int .i64 2, .int .i64 1, .int .i64 (-4)], [.int .i64 2, .int .i64 0, .int .i64 (-7)]] true), some (.row 1 [[.int .i64 4], [.int .i64 0], [.int .i64 1]] true), some (.row 1 [[.int .i64 0], [.int .i64 100], [.int .i64 129], [.int .i64 144]] true), some (.row 1 [[.int .i64 70], [.int .i64 129]] true), some (.row 1 [[.int .i64 134], [.int .i64 148]] true), some (.row 1 [[.int .i64 0], [.int .i64 (-1)]] true), some (.row 4 [[.sl 10 1 1 3 (some 3), .sl 11 1 0 2 none, .sl 12 1 0 2 none, .sl 13 1 0 2 none]] false)] }
def ks8 : St := { tmps := [.bool true, .sl 1 1 0 3 (some 3), .nils, .int .i64 0, .sl 3 1 0 3 (some 3), .int .i64 0, .sl 5 1 0 2 none, .int .i64 0, .nils, .sl 9 1 0 3 none, .int .i64 5, .ptr 14 4 0 0, .int .i64 0, .tup [.sl 1 1 0 3 (some 3), .nils, .int .i64 0], .sl 0 3 0 4 (some 4), .tup [.sl 1 1 0 3 (some 3), .nils, .int .i64 0], .sl 1 1 0 3 (some 3), .nils, .int .i64 0, .tup [.sl 3 1 0 3 (some 3), .int .i64 0], .sl 2 3 0 4 (some 4), .tup [.sl 3 1 0 3 (some 3), .int .i64 0], .sl 3 1 0 3 (some 3), .int .i64 0, .tup [.sl 5 1 0 2 none, .int .i64 0], .sl 4 3 0 4 (some 4), .tup [.sl 5 1 0 2 none, .int .i64 0], .sl 5 1 0 2 none, .int .i64 0, .tup [.nils, .sl 9 1 0 3 none, .int .i64 5], .sl 6 3 0 4 (some 4), .agg [.int .i64 2, .int .i64 0, .int .i64 (-7)], .sl 7 3 0 1 (some 1), .sl 8 3 0 5 none, .tup [.nils, .sl 9 1 0 3 none, .int .i64 5], .nils, .sl 9 1 0 3 none, .int .i64 5, .tup [.agg [.sl 10 1 1 3 (some 3), .sl 11 1 0 2 none, .sl 12 1 0 2 none, .sl 13 1 0 2 none], .int .i64 0], .agg [.int .i64 3, .int .i64 100, .ro .g true 8 [[.int .i64 20, .int .i64 30, .int .i64 10, .int .i64 2, .bool false, .int .i64 0, .int .i64 0, .ro .g true 3 [[.int .i64 60, .int .i64 200, .int .i64 70]]], [.int .i64 15, .int .i64 0, .int .i64 0, .int .i64 2, .bool true, .int .i64 5, .int .i64 30, .nils]]], .tup [.agg [.sl 10 1 1 3 (some 3), .sl 11 1 0 2 none, .sl 12 1 0 2 none, .sl 13 1 0 2 none], .int .i64 0], .agg [.sl 10 1 1 3 (some 3), .sl 11 1 0 2 none, .sl 12 1 0 2 none, .sl 13 1 0 2 none], .int .i64 0, .int .i64 0, .bool false, .bool false, .int .i64 0, .bool false, .bool false, .bool false, .int .i64 0, .bool false, .bool false, .bool false, .int .i64 5, .bool false, .bool false, .bool false, .int .i64 0, .bool false, .bool false, .bool false, .nils, .int .i64 0, .bool false, .bool false, .sl 1 1 0 3 (some 3), .sl 15 1 0 3 (some 3), .bool true, .bool true, .sl 3 1 0 3 (some 3), .sl 16 1 0 3 (some 3), .bool true, .bool true, .bool true, .sl 5 1 0 2 none, .sl 17 1 0 2 (some 2), .bool true, .bool true, .bool true, .sl 18 3 0 4 (some 4), .agg [.int .i64 2, .int .i64 0, .int .i64 (-7)], .sl 19 3 0 1 (some 1), .sl 20 3 0 5 none, .sl 9 1 0 3 none, .bool true, .bool true, .bool true, .agg [.sl 10 1 1 3 (some 3), .sl 11 1 0 2 none, .sl 12 1 0 2 none, .sl 13 1 0 2 none], .sl 21 1 0 3 (some 3), .sl 22 1 0 2 (some 2), .sl 23 1 0 2 (some 2), .sl 24 1 0 2 (some 2), .agg [.sl 21 1 0 3 (some 3), .sl 22 1 0 2 (some 2), .sl 23 1 0 2 (some 2), .sl 24 1 0 2 (some 2)], .bool true, .bool true], h := [some (.row 3 [[.int .i64 0, .int .i64 1, .int .i64 5], [.int .i64 1, .int .i64 2, .int .i64 3], [.int .i64 0, .int .i64 2, .int .i64 6], [.int .i64 2, .int .i64 1, .int .i64 (-4)]] true), some (.row 1 [[.int .i64 0], [.int .i64 5], [.int .i64 8]] true), some (.row 3 [[.int .i64 0, .int .i64 1, .int .i64 5], [.int .i64 1, .int .i64 2, .int .i64 3], [.int .i64 0, .int .i64 2, .int .i64 6], [.int .i64 2, .int .i64 1, .int .i64 (-4)]] true), some (.row 1 [[.int .i64 0], [.int .i64 17], [.int .i64 20]] true), some (.row 3 [[.int .i64 0, .int .i64 1, .int .i64 5], [.int .i64 1, .int .i64 2, .int .i64 3], [.int .i64 0, .int .i64 2, .int .i64 6], [.int .i64 2, .int .i64 1, .int .i64 (-4)]] true), some (.row 1 [[.int .i64 0], [.int .i64 1]] true), none, some (.row 3 [[.int .i64 2, .int .i64 0, .int .i64 (-7)]] true), some (.row 3 [[.int .i64 0, .int .i64 1, .int .i64 5], [.int .i64 1, .int .i64 2, .int .i64 3], [.int .i64 0, .int .i64 2, .int .i64 6], [.int .i64 2, .int .i64 1, .int .i64 (-4)], [.int .i64 2, .int .i64 0, .int .i64 (-7)]] true), some (.row 1 [[.int .i64 4], [.int .i64 0], [.int .i64 1]] true), some (.row 1 [[.int .i64 0], [.int .i64 100], [.int .i64 129], [.int .i64 144]] true), some (.row 1 [[.int .i64 70], [.int .i64 129]] true), some (.row 1 [[.int .i64 134], [.int .i64 148]] true), some (.row 1 [[.int .i64 0], [.int .i64 (-1)]] true), some (.row 4 [[.sl 10 1 1 3 (some 3), .sl 11 1 0 2 none, .sl 12 1 0 2 none, .sl 13 1 0 2 none]] false), some (.row 1 [[.int .i64 0], [.int .i64 5], [.int .i64 8]] true), some (.row 1 [[.int .i64 0], [.int .i64 17], [.int .i64 20]] true), some (.row 1 [[.int .i64 0], [.int .i64 1]] true), none, some (.row 3 [[.int .i64 2, .int .i64 0, .int .i64 (-7)]] true), some (.row 3 [[.int .i64 0, .int .i64 1, .int .i64 5], [.int .i64 1, .int .i64 2, .int .i64 3], [.int .i64 0, .int .i64 2, .int .i64 6], [.int .i64 2, .int .i64 1, .int .i64 (-4)], [.int .i64 2, .int .i64 0, .int .i64 (-7)]] true), some (.row 1 [[.int .i64 100], [.int .i64 129], [.int .i64 144]] true), some (.row 1 [[.int .i64 70], [.int .i64 129]] true), some (.row 1 [[.int .i64 134], [.int .i64 148]] true), some (.row 1 [[.int .i64 0], [.int .i64 (-1)]] true)] }
theorem kp0 : execA C (callA C 11) 16 0 (none : Option (Hd Unit)) (partC 0 kbody) ks0 () = some (.normal, ks1, ()) := by kernel_rfl
theorem kr0 : isSeq (restC 0 kbody) = true := by kernel_rfl
theorem kp1 : execA C (callA C 11) 16 0 (none : Option (Hd Unit)) (partC 1 kbody) ks1 () = some (.normal, ks2, ()) := by kernel_rfl
theorem kr1 : isSeq (restC 1 kbody) = true := by kernel_rfl
theorem kp2 : execA C (callA C 11) 16 0 (none : Option (Hd Unit)) (partC 2 kbody) ks2 () = some (.normal, ks3, ()) := by kernel_rfl
theorem kr2 : isSeq (restC 2 kbody) = true := by kernel_rfl
theorem kp3 : execA C (callA C 11) 16 0 (none : Option (Hd Unit)) (partC 3 kbody) ks3 () = some (.normal, ks4, ()) := by kernel_rfl
theorem kr3 : isSeq (restC 3 kbody) = true := by kernel_rfl
theorem kp4 : execA C (callA C 11) 16 0 (none : Option (Hd Unit)) (partC 4 kbody) ks4 () = some (.normal, ks5, ()) := by kernel_rfl
theorem kr4 : isSeq (restC 4 kbody) = true := by kernel_rfl
theorem kp5 : execA C (callA C 11) 16 0 (none : Option (Hd Unit)) (partC 5 kbody) ks5 () = some (.normal, ks6, ()) := by kernel_rfl
theorem kr5 : isSeq (restC 5 kbody) = true := by kernel_rfl
theorem kp6 : execA C (callA C 11) 16 0 (none : Option (Hd Unit)) (partC 6 kbody) ks6 () = some (.normal, ks7, ()) := by kernel_rfl
theorem kr6 : isSeq (restC 6 kbody) = true := by kernel_rfl
theorem kp7 : execA C (callA C 11) 16 0 (none : Option (Hd Unit)) (partC 7 kbody) ks7 () = some (.normal, ks8, ()) := by kernel_rfl
theorem kr7 : isSeq (restC 7 kbody) = true := by kernel_rfl
theorem kq : lastIs C (callA C 11) 16 kfn (restC 8 kbody) ks8 = true := by kernel_rfl
theorem k1 : (C.P.funcs[16]?).isSome = true := by kernel_rfl
theorem k2 : (kfn.body.isSome && !hasDef kbody) = true := by kernel_rfl
theorem k3 : (⟨List.replicate kfn.ntmps .und, []⟩ : St) = ks0 := by kernel_rfl
theorem ke8 : EndsTrue C (callA C 11) 16 kfn (restC 8 kbody) ks8 := lastIs_spec kq
theorem ke7 : EndsTrue C (callA C 11) 16 kfn (restC 7 kbody) ks7 := spine_step kr7 kp7 ke8
theorem ke6 : EndsTrue C (callA C 11) 16 kfn (restC 6 kbody) ks6 := spine_step kr6 kp6 ke7
theorem ke5 : EndsTrue C (callA C 11) 16 kfn (restC 5 kbody) ks5 := spine_step kr5 kp5 ke6
theorem ke4 : EndsTrue C (callA C 11) 16 kfn (restC 4 kbody) ks4 := spine_step kr4 kp4 ke5
theorem ke3 : EndsTrue C (callA C 11) 16 kfn (restC 3 kbody) ks3 := spine_step kr3 kp3 ke4
theorem ke2 : EndsTrue C (callA C 11) 16 kfn (restC 2 kbody) ks2 := spine_step kr2 kp2 ke3
theorem ke1 : EndsTrue C (callA C 11) 16 kfn (restC 1 kbody) ks1 := spine_step kr1 kp1 ke2
theorem ke0 : EndsTrue C (callA C 11) 16 kfn (restC 0 kbody) ks0 := spine_step kr0 kp0 ke1
theorem known0 : callA C 12 Unit none 16 [] [] () = some (.bool true, [], ()) := spine_call k1 rfl k2 k3 ke0
end Go.Proofs.Ytipbcpobnciccaa
