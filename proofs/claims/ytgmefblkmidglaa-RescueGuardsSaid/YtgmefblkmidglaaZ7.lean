/-
  What the claim rescue_guards rests on, part 7.
-/
import Derived.Test.YtgmefblkmidglaaZ6
namespace Go.Proofs.Ytgmefblkmidglaa
open Go.Lite
set_option linter.unusedVariables false
set_option maxRecDepth 100000
theorem t60 (a b c d e f g h i j : D) : fnT C tab60 60 s60 [a, b, c, d, e, f, g, h, i, j] =
  T.need true (T.need (yes (g.L.length < big)) (T.need true (T.need true (T.need (yes (g.L.length < big)) (T.need true (T.need true (T.need (yes (okPl a.I b.I c.I d.I e.I f.I ∧ ((0 : Int) ≤ (0 : Int) ∧ (0 : Int) ≤ a.I) ∧ (↑(List.length (List.replicate (Int.toNat (9 : Int)) [D.b false])) : Int) = (9 : Int) ∧ List.length (List.set (List.set (List.replicate (Int.toNat (9 : Int)) [D.b false]) (Int.toNat (1 : Int)) (updC (List.getD (List.replicate (Int.toNat (9 : Int)) [D.b false]) (Int.toNat (1 : Int)) []) [D.b (saysB (1 : Int) (2 : Int) (0 : Int) true g.L)] 0 0 (List.length [K.bool]))) (Int.toNat (4 : Int)) (updC (List.getD (List.set (List.replicate (Int.toNat (9 : Int)) [D.b false]) (Int.toNat (1 : Int)) (updC (List.getD (List.replicate (Int.toNat (9 : Int)) [D.b false]) (Int.toNat (1 : Int)) []) [D.b (saysB (1 : Int) (2 : Int) (0 : Int) true g.L)] 0 0 (List.length [K.bool]))) (Int.toNat (4 : Int)) []) [D.b (saysB (6 : Int) (7 : Int) (0 : Int) true g.L)] 0 0 (List.length [K.bool]))) = 9 ∧ g.L.length < big ∧ tOK j.I)) (T.need (yes (okPl a.I b.I c.I d.I e.I f.I ∧ ((0 : Int) ≤ (0 : Int) ∧ (0 : Int) ≤ f.I) ∧ (↑(Int.toNat (9 : Int)) : Int) = (9 : Int) ∧ List.length (postsF b.I j.I g.L (Int.toNat (0 : Int)) (Int.toNat (a.I - (0 : Int))) (List.set (List.set (List.replicate (Int.toNat (9 : Int)) [D.b false]) (Int.toNat (1 : Int)) (updC (List.getD (List.replicate (Int.toNat (9 : Int)) [D.b false]) (Int.toNat (1 : Int)) []) [D.b (saysB (1 : Int) (2 : Int) (0 : Int) true g.L)] 0 0 (List.length [K.bool]))) (Int.toNat (4 : Int)) (updC (List.getD (List.set (List.replicate (Int.toNat (9 : Int)) [D.b false]) (Int.toNat (1 : Int)) (updC (List.getD (List.replicate (Int.toNat (9 : Int)) [D.b false]) (Int.toNat (1 : Int)) []) [D.b (saysB (1 : Int) (2 : Int) (0 : Int) true g.L)] 0 0 (List.length [K.bool]))) (Int.toNat (4 : Int)) []) [D.b (saysB (6 : Int) (7 : Int) (0 : Int) true g.L)] 0 0 (List.length [K.bool])))) = 9 ∧ f.I = (h.L.length : Int) ∧ okCa h.L ∧ tOK j.I)) (T.need (yes ((↑0 : Int) = (0 : Int) ∧ (↑(Int.toNat (9 : Int)) : Int) = (9 : Int) ∧ List.length (carsF a.I c.I d.I e.I i.I j.I h.L (Int.toNat (0 : Int)) (Int.toNat (f.I - (0 : Int))) (postsF b.I j.I g.L (Int.toNat (0 : Int)) (Int.toNat (a.I - (0 : Int))) (List.set (List.set (List.replicate (Int.toNat (9 : Int)) [D.b false]) (Int.toNat (1 : Int)) (updC (List.getD (List.replicate (Int.toNat (9 : Int)) [D.b false]) (Int.toNat (1 : Int)) []) [D.b (saysB (1 : Int) (2 : Int) (0 : Int) true g.L)] 0 0 (List.length [K.bool]))) (Int.toNat (4 : Int)) (updC (List.getD (List.set (List.replicate (Int.toNat (9 : Int)) [D.b false]) (Int.toNat (1 : Int)) (updC (List.getD (List.replicate (Int.toNat (9 : Int)) [D.b false]) (Int.toNat (1 : Int)) []) [D.b (saysB (1 : Int) (2 : Int) (0 : Int) true g.L)] 0 0 (List.length [K.bool]))) (Int.toNat (4 : Int)) []) [D.b (saysB (6 : Int) (7 : Int) (0 : Int) true g.L)] 0 0 (List.length [K.bool]))))) = 9 ∧ (1 : Int) ≤ (1 : Int) ∧ (1 : Int) ≤ (9 : Int))) (T.ite (List.isEmpty (outF (carsF a.I c.I d.I e.I i.I j.I h.L (Int.toNat (0 : Int)) (Int.toNat (f.I - (0 : Int))) (postsF b.I j.I g.L (Int.toNat (0 : Int)) (Int.toNat (a.I - (0 : Int))) (List.set (List.set (List.replicate (Int.toNat (9 : Int)) [D.b false]) (Int.toNat (1 : Int)) (updC (List.getD (List.replicate (Int.toNat (9 : Int)) [D.b false]) (Int.toNat (1 : Int)) []) [D.b (saysB (1 : Int) (2 : Int) (0 : Int) true g.L)] 0 0 (List.length [K.bool]))) (Int.toNat (4 : Int)) (updC (List.getD (List.set (List.replicate (Int.toNat (9 : Int)) [D.b false]) (Int.toNat (1 : Int)) (updC (List.getD (List.replicate (Int.toNat (9 : Int)) [D.b false]) (Int.toNat (1 : Int)) []) [D.b (saysB (1 : Int) (2 : Int) (0 : Int) true g.L)] 0 0 (List.length [K.bool]))) (Int.toNat (4 : Int)) []) [D.b (saysB (6 : Int) (7 : Int) (0 : Int) true g.L)] 0 0 (List.length [K.bool]))))) (Int.toNat (1 : Int)) (9 - Int.toNat (1 : Int)) [])) (T.leaf [D.i 0]) (T.leaf [D.i 1, D.i (↑(Int.toNat (↑(List.length (outF (carsF a.I c.I d.I e.I i.I j.I h.L (Int.toNat (0 : Int)) (Int.toNat (f.I - (0 : Int))) (postsF b.I j.I g.L (Int.toNat (0 : Int)) (Int.toNat (a.I - (0 : Int))) (List.set (List.set (List.replicate (Int.toNat (9 : Int)) [D.b false]) (Int.toNat (1 : Int)) (updC (List.getD (List.replicate (Int.toNat (9 : Int)) [D.b false]) (Int.toNat (1 : Int)) []) [D.b (saysB (1 : Int) (2 : Int) (0 : Int) true g.L)] 0 0 (List.length [K.bool]))) (Int.toNat (4 : Int)) (updC (List.getD (List.set (List.replicate (Int.toNat (9 : Int)) [D.b false]) (Int.toNat (1 : Int)) (updC (List.getD (List.replicate (Int.toNat (9 : Int)) [D.b false]) (Int.toNat (1 : Int)) []) [D.b (saysB (1 : Int) (2 : Int) (0 : Int) true g.L)] 0 0 (List.length [K.bool]))) (Int.toNat (4 : Int)) []) [D.b (saysB (6 : Int) (7 : Int) (0 : Int) true g.L)] 0 0 (List.length [K.bool]))))) (Int.toNat (1 : Int)) (9 - Int.toNat (1 : Int)) [])) : Int)) : Int), D.l (outF (carsF a.I c.I d.I e.I i.I j.I h.L (Int.toNat (0 : Int)) (Int.toNat (f.I - (0 : Int))) (postsF b.I j.I g.L (Int.toNat (0 : Int)) (Int.toNat (a.I - (0 : Int))) (List.set (List.set (List.replicate (Int.toNat (9 : Int)) [D.b false]) (Int.toNat (1 : Int)) (updC (List.getD (List.replicate (Int.toNat (9 : Int)) [D.b false]) (Int.toNat (1 : Int)) []) [D.b (saysB (1 : Int) (2 : Int) (0 : Int) true g.L)] 0 0 (List.length [K.bool]))) (Int.toNat (4 : Int)) (updC (List.getD (List.set (List.replicate (Int.toNat (9 : Int)) [D.b false]) (Int.toNat (1 : Int)) (updC (List.getD (List.replicate (Int.toNat (9 : Int)) [D.b false]) (Int.toNat (1 : Int)) []) [D.b (saysB (1 : Int) (2 : Int) (0 : Int) true g.L)] 0 0 (List.length [K.bool]))) (Int.toNat (4 : Int)) []) [D.b (saysB (6 : Int) (7 : Int) (0 : Int) true g.L)] 0 0 (List.length [K.bool]))))) (Int.toNat (1 : Int)) (9 - Int.toNat (1 : Int)) [])]))))))))))) := by kernel_rfl
theorem t60_6 (a b c d e f g h i j k l m n o p q r s : D) : roundT C tab60 60 (loopOf C.P 60 6) l60_6 [a, b, c, d, e, f, g, h, i, j, k, l, m, n, o, p, q, r, s] =
  T.ite (decide (l.I < m.I)) (T.need (yes (g.L.length < big)) (T.ite (saysB (5 : Int) (4 : Int) l.I false g.L) (T.need (decide ((0 : Int) ≤ (2 : Int) ∧ (2 : Int) < (k.I.toNat : Int))) (T.need (decide (Int.toNat (2 : Int) < s.L.length)) (T.need (yes (g.L.length < big)) (T.ite (decide (lastB l.I g.L < (0 : Int))) (T.need (decide ((0 : Int) ≤ (3 : Int) ∧ (3 : Int) < (k.I.toNat : Int))) (T.need (decide (Int.toNat (3 : Int) < List.length (List.set s.L (Int.toNat (2 : Int)) (updC (List.getD s.L (Int.toNat (2 : Int)) []) [D.b true] 0 0 (List.length [K.bool]))))) (T.leaf (Rd.again [D.i a.I, D.i b.I, D.i c.I, D.i d.I, D.i e.I, D.i f.I, D.l g.L, D.l h.L, D.i i.I, D.i j.I, D.i (k.I.toNat : Int), D.i (IntKind.wrap IntKind.i64 (l.I + (1 : Int))), D.i m.I, D.i n.I, D.i o.I, D.i p.I, D.i q.I, D.i r.I, D.l (List.set (List.set s.L (Int.toNat (2 : Int)) (updC (List.getD s.L (Int.toNat (2 : Int)) []) [D.b true] 0 0 (List.length [K.bool]))) (Int.toNat (3 : Int)) (updC (List.getD (List.set s.L (Int.toNat (2 : Int)) (updC (List.getD s.L (Int.toNat (2 : Int)) []) [D.b true] 0 0 (List.length [K.bool]))) (Int.toNat (3 : Int)) []) [D.b true] 0 0 (List.length [K.bool])))])))) (T.ite (decide (lastB l.I g.L < IntKind.wrap IntKind.i64 (j.I - n.I))) (T.need (decide ((0 : Int) ≤ (3 : Int) ∧ (3 : Int) < (k.I.toNat : Int))) (T.need (decide (Int.toNat (3 : Int) < List.length (List.set s.L (Int.toNat (2 : Int)) (updC (List.getD s.L (Int.toNat (2 : Int)) []) [D.b true] 0 0 (List.length [K.bool]))))) (T.leaf (Rd.again [D.i a.I, D.i b.I, D.i c.I, D.i d.I, D.i e.I, D.i f.I, D.l g.L, D.l h.L, D.i i.I, D.i j.I, D.i (k.I.toNat : Int), D.i (IntKind.wrap IntKind.i64 (l.I + (1 : Int))), D.i m.I, D.i n.I, D.i o.I, D.i p.I, D.i q.I, D.i r.I, D.l (List.set (List.set s.L (Int.toNat (2 : Int)) (updC (List.getD s.L (Int.toNat (2 : Int)) []) [D.b true] 0 0 (List.length [K.bool]))) (Int.toNat (3 : Int)) (updC (List.getD (List.set s.L (Int.toNat (2 : Int)) (updC (List.getD s.L (Int.toNat (2 : Int)) []) [D.b true] 0 0 (List.length [K.bool]))) (Int.toNat (3 : Int)) []) [D.b true] 0 0 (List.length [K.bool])))])))) (T.leaf (Rd.again [D.i a.I, D.i b.I, D.i c.I, D.i d.I, D.i e.I, D.i f.I, D.l g.L, D.l h.L, D.i i.I, D.i j.I, D.i (k.I.toNat : Int), D.i (IntKind.wrap IntKind.i64 (l.I + (1 : Int))), D.i m.I, D.i n.I, D.i o.I, D.i p.I, D.i q.I, D.i r.I, D.l (List.set s.L (Int.toNat (2 : Int)) (updC (List.getD s.L (Int.toNat (2 : Int)) []) [D.b true] 0 0 (List.length [K.bool])))]))))))) (T.need (yes (g.L.length < big)) (T.ite (decide (lastB l.I g.L < (0 : Int))) (T.need (decide ((0 : Int) ≤ (3 : Int) ∧ (3 : Int) < (k.I.toNat : Int))) (T.need (decide (Int.toNat (3 : Int) < s.L.length)) (T.leaf (Rd.again [D.i a.I, D.i b.I, D.i c.I, D.i d.I, D.i e.I, D.i f.I, D.l g.L, D.l h.L, D.i i.I, D.i j.I, D.i (k.I.toNat : Int), D.i (IntKind.wrap IntKind.i64 (l.I + (1 : Int))), D.i m.I, D.i n.I, D.i o.I, D.i p.I, D.i q.I, D.i r.I, D.l (List.set s.L (Int.toNat (3 : Int)) (updC (List.getD s.L (Int.toNat (3 : Int)) []) [D.b true] 0 0 (List.length [K.bool])))])))) (T.ite (decide (lastB l.I g.L < IntKind.wrap IntKind.i64 (j.I - n.I))) (T.need (decide ((0 : Int) ≤ (3 : Int) ∧ (3 : Int) < (k.I.toNat : Int))) (T.need (decide (Int.toNat (3 : Int) < s.L.length)) (T.leaf (Rd.again [D.i a.I, D.i b.I, D.i c.I, D.i d.I, D.i e.I, D.i f.I, D.l g.L, D.l h.L, D.i i.I, D.i j.I, D.i (k.I.toNat : Int), D.i (IntKind.wrap IntKind.i64 (l.I + (1 : Int))), D.i m.I, D.i n.I, D.i o.I, D.i p.I, D.i q.I, D.i r.I, D.l (List.set s.L (Int.toNat (3 : Int)) (updC (List.getD s.L (Int.toNat (3 : Int)) []) [D.b true] 0 0 (List.length [K.bool])))])))) (T.leaf (Rd.again [D.i a.I, D.i b.I, D.i c.I, D.i d.I, D.i e.I, D.i f.I, D.l g.L, D.l h.L, D.i i.I, D.i j.I, D.i (k.I.toNat : Int), D.i (IntKind.wrap IntKind.i64 (l.I + (1 : Int))), D.i m.I, D.i n.I, D.i o.I, D.i p.I, D.i q.I, D.i r.I, D.l s.L]))))))) (T.leaf (Rd.out (Ex.exit 0) [D.i a.I, D.i b.I, D.i c.I, D.i d.I, D.i e.I, D.i f.I, D.l g.L, D.l h.L, D.i i.I, D.i j.I, D.i (k.I.toNat : Int), D.i m.I, D.i n.I, D.i o.I, D.i p.I, D.i q.I, D.i r.I, D.l s.L])) := by kernel_rfl
theorem t60_14 (a b c d e f g h i j k l m n o p q r s : D) : roundT C tab60 60 (loopOf C.P 60 14) l60_14 [a, b, c, d, e, f, g, h, i, j, k, l, m, n, o, p, q, r, s] =
  T.ite (decide (l.I < r.I)) (T.need (decide ((0 : Int) ≤ l.I ∧ l.I < (h.L.length : Int))) (T.ite (!D.B (List.getD (List.getD h.L l.I.toNat []) 0 default)) (T.leaf (Rd.again [D.i a.I, D.i b.I, D.i c.I, D.i d.I, D.i e.I, D.i f.I, D.l g.L, D.l h.L, D.i i.I, D.i j.I, D.i (k.I.toNat : Int), D.i (IntKind.wrap IntKind.i64 (l.I + (1 : Int))), D.i m.I, D.i n.I, D.i o.I, D.i p.I, D.i q.I, D.i r.I, D.l s.L])) (T.ite (!D.B (List.getD (List.getD h.L l.I.toNat []) (0 + 1 + 1 + 1) default)) (T.ite (decide (D.I (List.getD (List.getD h.L l.I.toNat []) (0 + 1 + 1) default) < IntKind.wrap IntKind.i64 (o.I - (1 : Int)))) (T.need (decide ((0 : Int) ≤ (5 : Int) ∧ (5 : Int) < (k.I.toNat : Int))) (T.need (decide (Int.toNat (5 : Int) < s.L.length)) (T.ite (!D.B (List.getD (List.getD h.L l.I.toNat []) (0 + 1 + 1 + 1) default)) (T.ite (!D.B (List.getD (List.getD h.L l.I.toNat []) (0 + 1 + 1 + 1 + 1) default)) (T.ite (decide (D.I (List.getD (List.getD h.L l.I.toNat []) (0 + 1 + 1) default) < IntKind.wrap IntKind.i64 (m.I - (1 : Int)))) (T.ite (decide (D.I (List.getD (List.getD h.L l.I.toNat []) (0 + 1) default) < IntKind.wrap IntKind.i64 (j.I - q.I))) (T.need (decide ((0 : Int) ≤ (6 : Int) ∧ (6 : Int) < (k.I.toNat : Int))) (T.need (decide (Int.toNat (6 : Int) < List.length (List.set s.L (Int.toNat (5 : Int)) (updC (List.getD s.L (Int.toNat (5 : Int)) []) [D.b true] 0 0 (List.length [K.bool]))))) (T.ite (decide (D.I (List.getD (List.getD h.L l.I.toNat []) (0 + 1) default) > IntKind.wrap IntKind.i64 (j.I - p.I))) (T.need (decide ((0 : Int) ≤ (7 : Int) ∧ (7 : Int) < (k.I.toNat : Int))) (T.need (decide (Int.toNat (7 : Int) < List.length (List.set (List.set s.L (Int.toNat (5 : Int)) (updC (List.getD s.L (Int.toNat (5 : Int)) []) [D.b true] 0 0 (List.length [K.bool]))) (Int.toNat (6 : Int)) (updC (List.getD (List.set s.L (Int.toNat (5 : Int)) (updC (List.getD s.L (Int.toNat (5 : Int)) []) [D.b true] 0 0 (List.length [K.bool]))) (Int.toNat (6 : Int)) []) [D.b true] 0 0 (List.length [K.bool]))))) (T.ite (decide (l.I ≥ i.I)) (T.need (decide ((0 : Int) ≤ (8 : Int) ∧ (8 : Int) < (k.I.toNat : Int))) (T.need (decide (Int.toNat (8 : Int) < List.length (List.set (List.set (List.set s.L (Int.toNat (5 : Int)) (updC (List.getD s.L (Int.toNat (5 : Int)) []) [D.b true] 0 0 (List.length [K.bool]))) (Int.toNat (6 : Int)) (updC (List.getD (List.set s.L (Int.toNat (5 : Int)) (updC (List.getD s.L (Int.toNat (5 : Int)) []) [D.b true] 0 0 (List.length [K.bool]))) (Int.toNat (6 : Int)) []) [D.b true] 0 0 (List.length [K.bool]))) (Int.toNat (7 : Int)) (updC (List.getD (List.set (List.set s.L (Int.toNat (5 : Int)) (updC (List.getD s.L (Int.toNat (5 : Int)) []) [D.b true] 0 0 (List.length [K.bool]))) (Int.toNat (6 : Int)) (updC (List.getD (List.set s.L (Int.toNat (5 : Int)) (updC (List.getD s.L (Int.toNat (5 : Int)) []) [D.b true] 0 0 (List.length [K.bool]))) (Int.toNat (6 : Int)) []) [D.b true] 0 0 (List.length [K.bool]))) (Int.toNat (7 : Int)) []) [D.b true] 0 0 (List.length [K.bool]))))) (T.leaf (Rd.again [D.i a.I, D.i b.I, D.i c.I, D.i d.I, D.i e.I, D.i f.I, D.l g.L, D.l h.L, D.i i.I, D.i j.I, D.i (k.I.toNat : Int), D.i (IntKind.wrap IntKind.i64 (l.I + (1 : Int))), D.i m.I, D.i n.I, D.i o.I, D.i p.I, D.i q.I, D.i r.I, D.l (List.set (List.set (List.set (List.set s.L (Int.toNat (5 : Int)) (updC (List.getD s.L (Int.toNat (5 : Int)) []) [D.b true] 0 0 (List.length [K.bool]))) (Int.toNat (6 : Int)) (updC (List.getD (List.set s.L (Int.toNat (5 : Int)) (updC (List.getD s.L (Int.toNat (5 : Int)) []) [D.b true] 0 0 (List.length [K.bool]))) (Int.toNat (6 : Int)) []) [D.b true] 0 0 (List.length [K.bool]))) (Int.toNat (7 : Int)) (updC (List.getD (List.set (List.set s.L (Int.toNat (5 : Int)) (updC (List.getD s.L (Int.toNat (5 : Int)) []) [D.b true] 0 0 (List.length [K.bool]))) (Int.toNat (6 : Int)) (updC (List.getD (List.set s.L (Int.toNat (5 : Int)) (updC (List.getD s.L (Int.toNat (5 : Int)) []) [D.b true] 0 0 (List.length [K.bool]))) (Int.toNat (6 : Int)) []) [D.b true] 0 0 (List.length [K.bool]))) (Int.toNat (7 : Int)) []) [D.b true] 0 0 (List.length [K.bool]))) (Int.toNat (8 : Int)) (updC (List.getD (List.set (List.set (List.set s.L (Int.toNat (5 : Int)) (updC (List.getD s.L (Int.toNat (5 : Int)) []) [D.b true] 0 0 (List.length [K.bool]))) (Int.toNat (6 : Int)) (updC (List.getD (List.set s.L (Int.toNat (5 : Int)) (updC (List.getD s.L (Int.toNat (5 : Int)) []) [D.b true] 0 0 (List.length [K.bool]))) (Int.toNat (6 : Int)) []) [D.b true] 0 0 (List.length [K.bool]))) (Int.toNat (7 : Int)) (updC (List.getD (List.set (List.set s.L (Int.toNat (5 : Int)) (updC (List.getD s.L (Int.toNat (5 : Int)) []) [D.b true] 0 0 (List.length [K.bool]))) (Int.toNat (6 : Int)) (updC (List.getD (List.set s.L (Int.toNat (5 : Int)) (updC (List.getD s.L (Int.toNat (5 : Int)) []) [D.b true] 0 0 (List.length [K.bool]))) (Int.toNat (6 : Int)) []) [D.b true] 0 0 (List.length [K.bool]))) (Int.toNat (7 : Int)) []) [D.b true] 0 0 (List.length [K.bool]))) (Int.toNat (8 : Int)) []) [D.b true] 0 0 (List.length [K.bool])))])))) (T.leaf (Rd.again [D.i a.I, D.i b.I, D.i c.I, D.i d.I, D.i e.I, D.i f.I, D.l g.L, D.l h.L, D.i i.I, D.i j.I, D.i (k.I.toNat : Int), D.i (IntKind.wrap IntKind.i64 (l.I + (1 : Int))), D.i m.I, D.i n.I, D.i o.I, D.i p.I, D.i q.I, D.i r.I, D.l (List.set (List.set (List.set s.L (Int.toNat (5 : Int)) (updC (List.getD s.L (Int.toNat (5 : Int)) []) [D.b true] 0 0 (List.length [K.bool]))) (Int.toNat (6 : Int)) (updC (List.getD (List.set s.L (Int.toNat (5 : Int)) (updC (List.getD s.L (Int.toNat (5 : Int)) []) [D.b true] 0 0 (List.length [K.bool]))) (Int.toNat (6 : Int)) []) [D.b true] 0 0 (List.length [K.bool]))) (Int.toNat (7 : Int)) (updC (List.getD (List.set (List.set s.L (Int.toNat (5 : Int)) (updC (List.getD s.L (Int.toNat (5 : Int)) []) [D.b true] 0 0 (List.length [K.bool]))) (Int.toNat (6 : Int)) (updC (List.getD (List.set s.L (Int.toNat (5 : Int)) (updC (List.getD s.L (Int.toNat (5 : Int)) []) [D.b true] 0 0 (List.length [K.bool]))) (Int.toNat (6 : Int)) []) [D.b true] 0 0 (List.length [K.bool]))) (Int.toNat (7 : Int)) []) [D.b true] 0 0 (List.length [K.bool])))]))))) (T.ite (decide (l.I ≥ i.I)) (T.need (decide ((0 : Int) ≤ (8 : Int) ∧ (8 : Int) < (k.I.toNat : Int))) (T.need (decide (Int.toNat (8 : Int) < List.length (List.set (List.set s.L (Int.toNat (5 : Int)) (updC (List.getD s.L (Int.toNat (5 : Int)) []) [D.b true] 0 0 (List.length [K.bool]))) (Int.toNat (6 : Int)) (updC (List.getD (List.set s.L (Int.toNat (5 : Int)) (updC (List.getD s.L (Int.toNat (5 : Int)) []) [D.b true] 0 0 (List.length [K.bool]))) (Int.toNat (6 : Int)) []) [D.b true] 0 0 (List.length [K.bool]))))) (T.leaf (Rd.again [D.i a.I, D.i b.I, D.i c.I, D.i d.I, D.i e.I, D.i f.I, D.l g.L, D.l h.L, D.i i.I, D.i j.I, D.i (k.I.toNat : Int), D.i (IntKind.wrap IntKind.i64 (l.I + (1 : Int))), D.i m.I, D.i n.I, D.i o.I, D.i p.I, D.i q.I, D.i r.I, D.l (List.set (List.set (List.set s.L (Int.toNat (5 : Int)) (updC (List.getD s.L (Int.toNat (5 : Int)) []) [D.b true] 0 0 (List.length [K.bool]))) (Int.toNat (6 : Int)) (updC (List.getD (List.set s.L (Int.toNat (5 : Int)) (updC (List.getD s.L (Int.toNat (5 : Int)) []) [D.b true] 0 0 (List.length [K.bool]))) (Int.toNat (6 : Int)) []) [D.b true] 0 0 (List.length [K.bool]))) (Int.toNat (8 : Int)) (updC (List.getD (List.set (List.set s.L (Int.toNat (5 : Int)) (updC (List.getD s.L (Int.toNat (5 : Int)) []) [D.b true] 0 0 (List.length [K.bool]))) (Int.toNat (6 : Int)) (updC (List.getD (List.set s.L (Int.toNat (5 : Int)) (updC (List.getD s.L (Int.toNat (5 : Int)) []) [D.b true] 0 0 (List.length [K.bool]))) (Int.toNat (6 : Int)) []) [D.b true] 0 0 (List.length [K.bool]))) (Int.toNat (8 : Int)) []) [D.b true] 0 0 (List.length [K.bool])))])))) (T.leaf (Rd.again [D.i a.I, D.i b.I, D.i c.I, D.i d.I, D.i e.I, D.i f.I, D.l g.L, D.l h.L, D.i i.I, D.i j.I, D.i (k.I.toNat : Int), D.i (IntKind.wrap IntKind.i64 (l.I + (1 : Int))), D.i m.I, D.i n.I, D.i o.I, D.i p.I, D.i q.I, D.i r.I, D.l (List.set (List.set s.L (Int.toNat (5 : Int)) (updC (List.getD s.L (Int.toNat (5 : Int)) []) [D.b true] 0 0 (List.length [K.bool]))) (Int.toNat (6 : Int)) (updC (List.getD (List.set s.L (Int.toNat (5 : Int)) (updC (List.getD s.L (Int.toNat (5 : Int)) []) [D.b true] 0 0 (List.length [K.bool]))) (Int.toNat (6 : Int)) []) [D.b true] 0 0 (List.length [K.bool])))])))))) (T.ite (decide (D.I (List.getD (List.getD h.L l.I.toNat []) (0 + 1) default) > IntKind.wrap IntKind.i64 (j.I - p.I))) (T.need (decide ((0 : Int) ≤ (7 : Int) ∧ (7 : Int) < (k.I.toNat : Int))) (T.need (decide (Int.toNat (7 : Int) < List.length (List.set s.L (Int.toNat (5 : Int)) (updC (List.getD s.L (Int.toNat (5 : Int)) []) [D.b true] 0 0 (List.length [K.bool]))))) (T.ite (decide (l.I ≥ i.I)) (T.need (decide ((0 : Int) ≤ (8 : Int) ∧ (8 : Int) < (k.I.toNat : Int))) (T.need (decide (Int.toNat (8 : Int) < List.length (List.set (List.set s.L (Int.toNat (5 : Int)) (updC (List.getD s.L (Int.toNat (5 : Int)) []) [D.b true] 0 0 (List.length [K.bool]))) (Int.toNat (7 : Int)) (updC (List.getD (List.set s.L (Int.toNat (5 : Int)) (updC (List.getD s.L (Int.toNat (5 : Int)) []) [D.b true] 0 0 (List.length [K.bool]))) (Int.toNat (7 : Int)) []) [D.b true] 0 0 (List.length [K.bool]))))) (T.leaf (Rd.again [D.i a.I, D.i b.I, D.i c.I, D.i d.I, D.i e.I, D.i f.I, D.l g.L, D.l h.L, D.i i.I, D.i j.I, D.i (k.I.toNat : Int), D.i (IntKind.wrap IntKind.i64 (l.I + (1 : Int))), D.i m.I, D.i n.I, D.i o.I, D.i p.I, D.i q.I, D.i r.I, D.l (List.set (List.set (List.set s.L (Int.toNat (5 : Int)) (updC (List.getD s.L (Int.toNat (5 : Int)) []) [D.b true] 0 0 (List.length [K.bool]))) (Int.toNat (7 : Int)) (updC (List.getD (List.set s.L (Int.toNat (5 : Int)) (updC (List.getD s.L (Int.toNat (5 : Int)) []) [D.b true] 0 0 (List.length [K.bool]))) (Int.toNat (7 : Int)) []) [D.b true] 0 0 (List.length [K.bool]))) (Int.toNat (8 : Int)) (updC (List.getD (List.set (List.set s.L (Int.toNat (5 : Int)) (updC (List.getD s.L (Int.toNat (5 : Int)) []) [D.b true] 0 0 (List.length [K.bool]))) (Int.toNat (7 : Int)) (updC (List.getD (List.set s.L (Int.toNat (5 : Int)) (updC (List.getD s.L (Int.toNat (5 : Int)) []) [D.b true] 0 0 (List.length [K.bool]))) (Int.toNat (7 : Int)) []) [D.b true] 0 0 (List.length [K.bool]))) (Int.toNat (8 : Int)) []) [D.b true] 0 0 (List.length [K.bool])))])))) (T.leaf (Rd.again [D.i a.I, D.i b.I, D.i c.I, D.i d.I, D.i e.I, D.i f.I, D.l g.L, D.l h.L, D.i i.I, D.i j.I, D.i (k.I.toNat : Int), D.i (IntKind.wrap IntKind.i64 (l.I + (1 : Int))), D.i m.I, D.i n.I, D.i o.I, D.i p.I, D.i q.I, D.i r.I, D.l (List.set (List.set s.L (Int.toNat (5 : Int)) (updC (List.getD s.L (Int.toNat (5 : Int)) []) [D.b true] 0 0 (List.length [K.bool]))) (Int.toNat (7 : Int)) (updC (List.getD (List.set s.L (Int.toNat (5 : Int)) (updC (List.getD s.L (Int.toNat (5 : Int)) []) [D.b true] 0 0 (List.length [K.bool]))) (Int.toNat (7 : Int)) []) [D.b true] 0 0 (List.length [K.bool])))]))))) (T.ite (decide (l.I ≥ i.I)) (T.need (decide ((0 : Int) ≤ (8 : Int) ∧ (8 : Int) < (k.I.toNat : Int))) (T.need (decide (Int.toNat (8 : Int) < List.length (List.set s.L (Int.toNat (5 : Int)) (updC (List.getD s.L (Int.toNat (5 : Int)) []) [D.b true] 0 0 (List.length [K.bool]))))) (T.leaf (Rd.again [D.i a.I, D.i b.I, D.i c.I, D.i d.I, D.i e.I, D.i f.I, D.l g.L, D.l h.L, D.i i.I, D.i j.I, D.i (k.I.toNat : Int), D.i (IntKind.wrap IntKind.i64 (l.I + (1 : Int))), D.i m.I, D.i n.I, D.i o.I, D.i p.I, D.i q.I, D.i r.I, D.l (List.set (List.set s.L (Int.toNat (5 : Int)) (updC (List.getD s.L (Int.toNat (5 : Int)) []) [D.b true] 0 0 (List.length [K.bool]))) (Int.toNat (8 : Int)) (updC (List.getD (List.set s.L (Int.toNat (5 : Int)) (updC (List.getD s.L (Int.toNat (5 : Int)) []) [D.b true] 0 0 (List.length [K.bool]))) (Int.toNat (8 : Int)) []) [D.b true] 0 0 (List.length [K.bool])))])))) (T.leaf (Rd.again [D.i a.I, D.i b.I, D.i c.I, D.i d.I, D.i e.I, D.i f.I, D.l g.L, D.l h.L, D.i i.I, D.i j.I, D.i (k.I.toNat : Int), D.i (IntKind.wrap IntKind.i64 (l.I + (1 : Int))), D.i m.I, D.i n.I, D.i o.I, D.i p.I, D.i q.I, D.i r.I, D.l (List.set s.L (Int.toNat (5 : Int)) (updC (List.getD s.L (Int.toNat (5 : Int)) []) [D.b true] 0 0 (List.length [K.bool])))]))))) (T.ite (decide (D.I (List.getD (List.getD h.L l.I.toNat []) (0 + 1) default) > IntKind.wrap IntKind.i64 (j.I - p.I))) (T.need (decide ((0 : Int) ≤ (7 : Int) ∧ (7 : Int) < (k.I.toNat : Int))) (T.need (decide (Int.toNat (7 : Int) < List.length (List.set s.L (Int.toNat (5 : Int)) (updC (List.getD s.L (Int.toNat (5 : Int)) []) [D.b true] 0 0 (List.length [K.bool]))))) (T.ite (decide (l.I ≥ i.I)) (T.need (decide ((0 : Int) ≤ (8 : Int) ∧ (8 : Int) < (k.I.toNat : Int))) (T.need (decide (Int.toNat (8 : Int) < List.length (List.set (List.set s.L (Int.toNat (5 : Int)) (updC (List.getD s.L (Int.toNat (5 : Int)) []) [D.b true] 0 0 (List.length [K.bool]))) (Int.toNat (7 : Int)) (updC (List.getD (List.set s.L (Int.toNat (5 : Int)) (updC (List.getD s.L (Int.toNat (5 : Int)) []) [D.b true] 0 0 (List.length [K.bool]))) (Int.toNat (7 : Int)) []) [D.b true] 0 0 (List.length [K.bool]))))) (T.leaf (Rd.again [D.i a.I, D.i b.I, D.i c.I, D.i d.I, D.i e.I, D.i f.I, D.l g.L, D.l h.L, D.i i.I, D.i j.I, D.i (k.I.toNat : Int), D.i (IntKind.wrap IntKind.i64 (l.I + (1 : Int))), D.i m.I, D.i n.I, D.i o.I, D.i p.I, D.i q.I, D.i r.I, D.l (List.set (List.set (List.set s.L (Int.toNat (5 : Int)) (updC (List.getD s.L (Int.toNat (5 : Int)) []) [D.b true] 0 0 (List.length [K.bool]))) (Int.toNat (7 : Int)) (updC (List.getD (List.set s.L (Int.toNat (5 : Int)) (updC (List.getD s.L (Int.toNat (5 : Int)) []) [D.b true] 0 0 (List.length [K.bool]))) (Int.toNat (7 : Int)) []) [D.b true] 0 0 (List.length [K.bool]))) (Int.toNat (8 : Int)) (updC (List.getD (List.set (List.set s.L (Int.toNat (5 : Int)) (updC (List.getD s.L (Int.toNat (5 : Int)) []) [D.b true] 0 0 (List.length [K.bool]))) (Int.toNat (7 : Int)) (updC (List.getD (List.set s.L (Int.toNat (5 : Int)) (updC (List.getD s.L (Int.toNat (5 : Int)) []) [D.b true] 0 0 (List.length [K.bool]))) (Int.toNat (7 : Int)) []) [D.b true] 0 0 (List.length [K.bool]))) (Int.toNat (8 : Int)) []) [D.b true] 0 0 (List.length [K.bool])))])))) (T.leaf (Rd.again [D.i a.I, D.i b.I, D.i c.I, D.i d.I, D.i e.I, D.i f.I, D.l g.L, D.l h.L, D.i i.I, D.i j.I, D.i (k.I.toNat : Int), D.i (IntKind.wrap IntKind.i64 (l.I + (1 : Int))), D.i m.I, D.i n.I, D.i o.I, D.i p.I, D.i q.I, D.i r.I, D.l (List.set (List.set s.L (Int.toNat (5 : Int)) (updC (List.getD s.L (Int.toNat (5 : Int)) []) [D.b true] 0 0 (List.length [K.bool]))) (Int.toNat (7 : Int)) (updC (List.getD (List.set s.L (Int.toNat (5 : Int)) (updC (List.getD s.L (Int.toNat (5 : Int)) []) [D.b true] 0 0 (List.length [K.bool]))) (Int.toNat (7 : Int)) []) [D.b true] 0 0 (List.length [K.bool])))]))))) (T.ite (decide (l.I ≥ i.I)) (T.need (decide ((0 : Int) ≤ (8 : Int) ∧ (8 : Int) < (k.I.toNat : Int))) (T.need (decide (Int.toNat (8 : Int) < List.length (List.set s.L (Int.toNat (5 : Int)) (updC (List.getD s.L (Int.toNat (5 : Int)) []) [D.b true] 0 0 (List.length [K.bool]))))) (T.leaf (Rd.again [D.i a.I, D.i b.I, D.i c.I, D.i d.I, D.i e.I, D.i f.I, D.l g.L, D.l h.L, D.i i.I, D.i j.I, D.i (k.I.toNat : Int), D.i (IntKind.wrap IntKind.i64 (l.I + (1 : Int))), D.i m.I, D.i n.I, D.i o.I, D.i p.I, D.i q.I, D.i r.I, D.l (List.set (List.set s.L (Int.toNat (5 : Int)) (updC (List.getD s.L (Int.toNat (5 : Int)) []) [D.b true] 0 0 (List.length [K.bool]))) (Int.toNat (8 : Int)) (updC (List.getD (List.set s.L (Int.toNat (5 : Int)) (updC (List.getD s.L (Int.toNat (5 : Int)) []) [D.b true] 0 0 (List.length [K.bool]))) (Int.toNat (8 : Int)) []) [D.b true] 0 0 (List.length [K.bool])))])))) (T.leaf (Rd.again [D.i a.I, D.i b.I, D.i c.I, D.i d.I, D.i e.I, D.i f.I, D.l g.L, D.l h.L, D.i i.I, D.i j.I, D.i (k.I.toNat : Int), D.i (IntKind.wrap IntKind.i64 (l.I + (1 : Int))), D.i m.I, D.i n.I, D.i o.I, D.i p.I, D.i q.I, D.i r.I, D.l (List.set s.L (Int.toNat (5 : Int)) (updC (List.getD s.L (Int.toNat (5 : Int)) []) [D.b true] 0 0 (List.length [K.bool])))]))))) (T.ite (decide (D.I (List.getD (List.getD h.L l.I.toNat []) (0 + 1) default) > IntKind.wrap IntKind.i64 (j.I - p.I))) (T.need (decide ((0 : Int) ≤ (7 : Int) ∧ (7 : Int) < (k.I.toNat : Int))) (T.need (decide (Int.toNat (7 : Int) < List.length (List.set s.L (Int.toNat (5 : Int)) (updC (List.getD s.L (Int.toNat (5 : Int)) []) [D.b true] 0 0 (List.length [K.bool]))))) (T.ite (decide (l.I ≥ i.I)) (T.need (decide ((0 : Int) ≤ (8 : Int) ∧ (8 : Int) < (k.I.toNat : Int))) (T.need (decide (Int.toNat (8 : Int) < List.length (List.set (List.set s.L (Int.toNat (5 : Int)) (updC (List.getD s.L (Int.toNat (5 : Int)) []) [D.b true] 0 0 (List.length [K.bool]))) (Int.toNat (7 : Int)) (updC (List.getD (List.set s.L (Int.toNat (5 : Int)) (updC (List.getD s.L (Int.toNat (5 : Int)) []) [D.b true] 0 0 (List.length [K.bool]))) (Int.toNat (7 : Int)) []) [D.b true] 0 0 (List.length [K.bool]))))) (T.leaf (Rd.again [D.i a.I, D.i b.I, D.i c.I, D.i d.I, D.i e.I, D.i f.I, D.l g.L, D.l h.L, D.i i.I, D.i j.I, D.i (k.I.toNat : Int), D.i (IntKind.wrap IntKind.i64 (l.I + (1 : Int))), D.i m.I, D.i n.I, D.i o.I, D.i p.I, D.i q.I, D.i r.I, D.l (List.set (List.set (List.set s.L (Int.toNat (5 : Int)) (updC (List.getD s.L (Int.toNat (5 : Int)) []) [D.b true] 0 0 (List.length [K.bool]))) (Int.toNat (7 : Int)) (updC (List.getD (List.set s.L (Int.toNat (5 : Int)) (updC (List.getD s.L (Int.toNat (5 : Int)) []) [D.b true] 0 0 (List.length [K.bool]))) (Int.toNat (7 : Int)) []) [D.b true] 0 0 (List.length [K.bool]))) (Int.toNat (8 : Int)) (updC (List.getD (List.set (List.set s.L (Int.toNat (5 : Int)) (updC (List.getD s.L (Int.toNat (5 : Int)) []) [D.b true] 0 0 (List.length [K.bool]))) (Int.toNat (7 : Int)) (updC (List.getD (List.set s.L (Int.toNat (5 : Int)) (updC (List.getD s.L (Int.toNat (5 : Int)) []) [D.b true] 0 0 (List.length [K.bool]))) (Int.toNat (7 : Int)) []) [D.b true] 0 0 (List.length [K.bool]))) (Int.toNat (8 : Int)) []) [D.b true] 0 0 (List.length [K.bool])))])))) (T.leaf (Rd.again [D.i a.I, D.i b.I, D.i c.I, D.i d.I, D.i e.I, D.i f.I, D.l g.L, D.l h.L, D.i i.I, D.i j.I, D.i (k.I.toNat : Int), D.i (IntKind.wrap IntKind.i64 (l.I + (1 : Int))), D.i m.I, D.i n.I, D.i o.I, D.i p.I, D.i q.I, D.i r.I, D.l (List.set (List.set s.L (Int.toNat (5 : Int)) (updC (List.getD s.L (Int.toNat (5 : Int)) []) [D.b true] 0 0 (List.length [K.bool]))) (Int.toNat (7 : Int)) (updC (List.getD (List.set s.L (Int.toNat (5 : Int)) (updC (List.getD s.L (Int.toNat (5 : Int)) []) [D.b true] 0 0 (List.length [K.bool]))) (Int.toNat (7 : Int)) []) [D.b true] 0 0 (List.length [K.bool])))]))))) (T.ite (decide (l.I ≥ i.I)) (T.need (decide ((0 : Int) ≤ (8 : Int) ∧ (8 : Int) < (k.I.toNat : Int))) (T.need (decide (Int.toNat (8 : Int) < List.length (List.set s.L (Int.toNat (5 : Int)) (updC (List.getD s.L (Int.toNat (5 : Int)) []) [D.b true] 0 0 (List.length [K.bool]))))) (T.leaf (Rd.again [D.i a.I, D.i b.I, D.i c.I, D.i d.I, D.i e.I, D.i f.I, D.l g.L, D.l h.L, D.i i.I, D.i j.I, D.i (k.I.toNat : Int), D.i (IntKind.wrap IntKind.i64 (l.I + (1 : Int))), D.i m.I, D.i n.I, D.i o.I, D.i p.I, D.i q.I, D.i r.I, D.l (List.set (List.set s.L (Int.toNat (5 : Int)) (updC (List.getD s.L (Int.toNat (5 : Int)) []) [D.b true] 0 0 (List.length [K.bool]))) (Int.toNat (8 : Int)) (updC (List.getD (List.set s.L (Int.toNat (5 : Int)) (updC (List.getD s.L (Int.toNat (5 : Int)) []) [D.b true] 0 0 (List.length [K.bool]))) (Int.toNat (8 : Int)) []) [D.b true] 0 0 (List.length [K.bool])))])))) (T.leaf (Rd.again [D.i a.I, D.i b.I, D.i c.I, D.i d.I, D.i e.I, D.i f.I, D.l g.L, D.l h.L, D.i i.I, D.i j.I, D.i (k.I.toNat : Int), D.i (IntKind.wrap IntKind.i64 (l.I + (1 : Int))), D.i m.I, D.i n.I, D.i o.I, D.i p.I, D.i q.I, D.i r.I, D.l (List.set s.L (Int.toNat (5 : Int)) (updC (List.getD s.L (Int.toNat (5 : Int)) []) [D.b true] 0 0 (List.length [K.bool])))]))))) (T.ite (decide (D.I (List.getD (List.getD h.L l.I.toNat []) (0 + 1) default) > IntKind.wrap IntKind.i64 (j.I - p.I))) (T.need (decide ((0 : Int) ≤ (7 : Int) ∧ (7 : Int) < (k.I.toNat : Int))) (T.need (decide (Int.toNat (7 : Int) < List.length (List.set s.L (Int.toNat (5 : Int)) (updC (List.getD s.L (Int.toNat (5 : Int)) []) [D.b true] 0 0 (List.length [K.bool]))))) (T.ite (decide (l.I ≥ i.I)) (T.need (decide ((0 : Int) ≤ (8 : Int) ∧ (8 : Int) < (k.I.toNat : Int))) (T.need (decide (Int.toNat (8 : Int) < List.length (List.set (List.set s.L (Int.toNat (5 : Int)) (updC (List.getD s.L (Int.toNat (5 : Int)) []) [D.b true] 0 0 (List.length [K.bool]))) (Int.toNat (7 : Int)) (updC (List.getD (List.set s.L (Int.toNat (5 : Int)) (updC (List.getD s.L (Int.toNat (5 : Int)) []) [D.b true] 0 0 (List.length [K.bool]))) (Int.toNat (7 : Int)) []) [D.b true] 0 0 (List.length [K.bool]))))) (T.leaf (Rd.again [D.i a.I, D.i b.I, D.i c.I, D.i d.I, D.i e.I, D.i f.I, D.l g.L, D.l h.L, D.i i.I, D.i j.I, D.i (k.I.toNat : Int), D.i (IntKind.wrap IntKind.i64 (l.I + (1 : Int))), D.i m.I, D.i n.I, D.i o.I, D.i p.I, D.i q.I, D.i r.I, D.l (List.set (List.set (List.set s.L (Int.toNat (5 : Int)) (updC (List.getD s.L (Int.toNat (5 : Int)) []) [D.b true] 0 0 (List.length [K.bool]))) (Int.toNat (7 : Int)) (updC (List.getD (List.set s.L (Int.toNat (5 : Int)) (updC (List.getD s.L (Int.toNat (5 : Int)) []) [D.b true] 0 0 (List.length [K.bool]))) (Int.toNat (7 : Int)) []) [D.b true] 0 0 (List.length [K.bool]))) (Int.toNat (8 : Int)) (updC (List.getD (List.set (List.set s.L (Int.toNat (5 : Int)) (updC (List.getD s.L (Int.toNat (5 : Int)) []) [D.b true] 0 0 (List.length [K.bool]))) (Int.toNat (7 : Int)) (updC (List.getD (List.set s.L (Int.toNat (5 : Int)) (updC (List.getD s.L (Int.toNat (5 : Int)) []) [D.b true] 0 0 (List.length [K.bool]))) (Int.toNat (7 : Int)) []) [D.b true] 0 0 (List.length [K.bool]))) (Int.toNat (8 : Int)) []) [D.b true] 0 0 (List.length [K.bool])))])))) (T.leaf (Rd.again [D.i a.I, D.i b.I, D.i c.I, D.i d.I, D.i e.I, D.i f.I, D.l g.L, D.l h.L, D.i i.I, D.i j.I, D.i (k.I.toNat : Int), D.i (IntKind.wrap IntKind.i64 (l.I + (1 : Int))), D.i m.I, D.i n.I, D.i o.I, D.i p.I, D.i q.I, D.i r.I, D.l (List.set (List.set s.L (Int.toNat (5 : Int)) (updC (List.getD s.L (Int.toNat (5 : Int)) []) [D.b true] 0 0 (List.length [K.bool]))) (Int.toNat (7 : Int)) (updC (List.getD (List.set s.L (Int.toNat (5 : Int)) (updC (List.getD s.L (Int.toNat (5 : Int)) []) [D.b true] 0 0 (List.length [K.bool]))) (Int.toNat (7 : Int)) []) [D.b true] 0 0 (List.length [K.bool])))]))))) (T.ite (decide (l.I ≥ i.I)) (T.need (decide ((0 : Int) ≤ (8 : Int) ∧ (8 : Int) < (k.I.toNat : Int))) (T.need (decide (Int.toNat (8 : Int) < List.length (List.set s.L (Int.toNat (5 : Int)) (updC (List.getD s.L (Int.toNat (5 : Int)) []) [D.b true] 0 0 (List.length [K.bool]))))) (T.leaf (Rd.again [D.i a.I, D.i b.I, D.i c.I, D.i d.I, D.i e.I, D.i f.I, D.l g.L, D.l h.L, D.i i.I, D.i j.I, D.i (k.I.toNat : Int), D.i (IntKind.wrap IntKind.i64 (l.I + (1 : Int))), D.i m.I, D.i n.I, D.i o.I, D.i p.I, D.i q.I, D.i r.I, D.l (List.set (List.set s.L (Int.toNat (5 : Int)) (updC (List.getD s.L (Int.toNat (5 : Int)) []) [D.b true] 0 0 (List.length [K.bool]))) (Int.toNat (8 : Int)) (updC (List.getD (List.set s.L (Int.toNat (5 : Int)) (updC (List.getD s.L (Int.toNat (5 : Int)) []) [D.b true] 0 0 (List.length [K.bool]))) (Int.toNat (8 : Int)) []) [D.b true] 0 0 (List.length [K.bool])))])))) (T.leaf (Rd.again [D.i a.I, D.i b.I, D.i c.I, D.i d.I, D.i e.I, D.i f.I, D.l g.L, D.l h.L, D.i i.I, D.i j.I, D.i (k.I.toNat : Int), D.i (IntKind.wrap IntKind.i64 (l.I + (1 : Int))), D.i m.I, D.i n.I, D.i o.I, D.i p.I, D.i q.I, D.i r.I, D.l (List.set s.L (Int.toNat (5 : Int)) (updC (List.getD s.L (Int.toNat (5 : Int)) []) [D.b true] 0 0 (List.length [K.bool])))]))))))) (T.ite (!D.B (List.getD (List.getD h.L l.I.toNat []) (0 + 1 + 1 + 1) default)) (T.ite (!D.B (List.getD (List.getD h.L l.I.toNat []) (0 + 1 + 1 + 1 + 1) default)) (T.ite (decide (D.I (List.getD (List.getD h.L l.I.toNat []) (0 + 1 + 1) default) < IntKind.wrap IntKind.i64 (m.I - (1 : Int)))) (T.ite (decide (D.I (List.getD (List.getD h.L l.I.toNat []) (0 + 1) default) < IntKind.wrap IntKind.i64 (j.I - q.I))) (T.need (decide ((0 : Int) ≤ (6 : Int) ∧ (6 : Int) < (k.I.toNat : Int))) (T.need (decide (Int.toNat (6 : Int) < s.L.length)) (T.ite (decide (D.I (List.getD (List.getD h.L l.I.toNat []) (0 + 1) default) > IntKind.wrap IntKind.i64 (j.I - p.I))) (T.need (decide ((0 : Int) ≤ (7 : Int) ∧ (7 : Int) < (k.I.toNat : Int))) (T.need (decide (Int.toNat (7 : Int) < List.length (List.set s.L (Int.toNat (6 : Int)) (updC (List.getD s.L (Int.toNat (6 : Int)) []) [D.b true] 0 0 (List.length [K.bool]))))) (T.ite (decide (l.I ≥ i.I)) (T.need (decide ((0 : Int) ≤ (8 : Int) ∧ (8 : Int) < (k.I.toNat : Int))) (T.need (decide (Int.toNat (8 : Int) < List.length (List.set (List.set s.L (Int.toNat (6 : Int)) (updC (List.getD s.L (Int.toNat (6 : Int)) []) [D.b true] 0 0 (List.length [K.bool]))) (Int.toNat (7 : Int)) (updC (List.getD (List.set s.L (Int.toNat (6 : Int)) (updC (List.getD s.L (Int.toNat (6 : Int)) []) [D.b true] 0 0 (List.length [K.bool]))) (Int.toNat (7 : Int)) []) [D.b true] 0 0 (List.length [K.bool]))))) (T.leaf (Rd.again [D.i a.I, D.i b.I, D.i c.I, D.i d.I, D.i e.I, D.i f.I, D.l g.L, D.l h.L, D.i i.I, D.i j.I, D.i (k.I.toNat : Int), D.i (IntKind.wrap IntKind.i64 (l.I + (1 : Int))), D.i m.I, D.i n.I, D.i o.I, D.i p.I, D.i q.I, D.i r.I, D.l (List.set (List.set (List.set s.L (Int.toNat (6 : Int)) (updC (List.getD s.L (Int.toNat (6 : Int)) []) [D.b true] 0 0 (List.length [K.bool]))) (Int.toNat (7 : Int)) (updC (List.getD (List.set s.L (Int.toNat (6 : Int)) (updC (List.getD s.L (Int.toNat (6 : Int)) []) [D.b true] 0 0 (List.length [K.bool]))) (Int.toNat (7 : Int)) []) [D.b true] 0 0 (List.length [K.bool]))) (Int.toNat (8 : Int)) (updC (List.getD (List.set (List.set s.L (Int.toNat (6 : Int)) (updC (List.getD s.L (Int.toNat (6 : Int)) []) [D.b true] 0 0 (List.length [K.bool]))) (Int.toNat (7 : Int)) (updC (List.getD (List.set s.L (Int.toNat (6 : Int)) (updC (List.getD s.L (Int.toNat (6 : Int)) []) [D.b true] 0 0 (List.length [K.bool]))) (Int.toNat (7 : Int)) []) [D.b true] 0 0 (List.length [K.bool]))) (Int.toNat (8 : Int)) []) [D.b true] 0 0 (List.length [K.bool])))])))) (T.leaf (Rd.again [D.i a.I, D.i b.I, D.i c.I, D.i d.I, D.i e.I, D.i f.I, D.l g.L, D.l h.L, D.i i.I, D.i j.I, D.i (k.I.toNat : Int), D.i (IntKind.wrap IntKind.i64 (l.I + (1 : Int))), D.i m.I, D.i n.I, D.i o.I, D.i p.I, D.i q.I, D.i r.I, D.l (List.set (List.set s.L (Int.toNat (6 : Int)) (updC (List.getD s.L (Int.toNat (6 : Int)) []) [D.b true] 0 0 (List.length [K.bool]))) (Int.toNat (7 : Int)) (updC (List.getD (List.set s.L (Int.toNat (6 : Int)) (updC (List.getD s.L (Int.toNat (6 : Int)) []) [D.b true] 0 0 (List.length [K.bool]))) (Int.toNat (7 : Int)) []) [D.b true] 0 0 (List.length [K.bool])))]))))) (T.ite (decide (l.I ≥ i.I)) (T.need (decide ((0 : Int) ≤ (8 : Int) ∧ (8 : Int) < (k.I.toNat : Int))) (T.need (decide (Int.toNat (8 : Int) < List.length (List.set s.L (Int.toNat (6 : Int)) (updC (List.getD s.L (Int.toNat (6 : Int)) []) [D.b true] 0 0 (List.length [K.bool]))))) (T.leaf (Rd.again [D.i a.I, D.i b.I, D.i c.I, D.i d.I, D.i e.I, D.i f.I, D.l g.L, D.l h.L, D.i i.I, D.i j.I, D.i (k.I.toNat : Int), D.i (IntKind.wrap IntKind.i64 (l.I + (1 : Int))), D.i m.I, D.i n.I, D.i o.I, D.i p.I, D.i q.I, D.i r.I, D.l (List.set (List.set s.L (Int.toNat (6 : Int)) (updC (List.getD s.L (Int.toNat (6 : Int)) []) [D.b true] 0 0 (List.length [K.bool]))) (Int.toNat (8 : Int)) (updC (List.getD (List.set s.L (Int.toNat (6 : Int)) (updC (List.getD s.L (Int.toNat (6 : Int)) []) [D.b true] 0 0 (List.length [K.bool]))) (Int.toNat (8 : Int)) []) [D.b true] 0 0 (List.length [K.bool])))])))) (T.leaf (Rd.again [D.i a.I, D.i b.I, D.i c.I, D.i d.I, D.i e.I, D.i f.I, D.l g.L, D.l h.L, D.i i.I, D.i j.I, D.i (k.I.toNat : Int), D.i (IntKind.wrap IntKind.i64 (l.I + (1 : Int))), D.i m.I, D.i n.I, D.i o.I, D.i p.I, D.i q.I, D.i r.I, D.l (List.set s.L (Int.toNat (6 : Int)) (updC (List.getD s.L (Int.toNat (6 : Int)) []) [D.b true] 0 0 (List.length [K.bool])))])))))) (T.ite (decide (D.I (List.getD (List.getD h.L l.I.toNat []) (0 + 1) default) > IntKind.wrap IntKind.i64 (j.I - p.I))) (T.need (decide ((0 : Int) ≤ (7 : Int) ∧ (7 : Int) < (k.I.toNat : Int))) (T.need (decide (Int.toNat (7 : Int) < s.L.length)) (T.ite (decide (l.I ≥ i.I)) (T.need (decide ((0 : Int) ≤ (8 : Int) ∧ (8 : Int) < (k.I.toNat : Int))) (T.need (decide (Int.toNat (8 : Int) < List.length (List.set s.L (Int.toNat (7 : Int)) (updC (List.getD s.L (Int.toNat (7 : Int)) []) [D.b true] 0 0 (List.length [K.bool]))))) (T.leaf (Rd.again [D.i a.I, D.i b.I, D.i c.I, D.i d.I, D.i e.I, D.i f.I, D.l g.L, D.l h.L, D.i i.I, D.i j.I, D.i (k.I.toNat : Int), D.i (IntKind.wrap IntKind.i64 (l.I + (1 : Int))), D.i m.I, D.i n.I, D.i o.I, D.i p.I, D.i q.I, D.i r.I, D.l (List.set (List.set s.L (Int.toNat (7 : Int)) (updC (List.getD s.L (Int.toNat (7 : Int)) []) [D.b true] 0 0 (List.length [K.bool]))) (Int.toNat (8 : Int)) (updC (List.getD (List.set s.L (Int.toNat (7 : Int)) (updC (List.getD s.L (Int.toNat (7 : Int)) []) [D.b true] 0 0 (List.length [K.bool]))) (Int.toNat (8 : Int)) []) [D.b true] 0 0 (List.length [K.bool])))])))) (T.leaf (Rd.again [D.i a.I, D.i b.I, D.i c.I, D.i d.I, D.i e.I, D.i f.I, D.l g.L, D.l h.L, D.i i.I, D.i j.I, D.i (k.I.toNat : Int), D.i (IntKind.wrap IntKind.i64 (l.I + (1 : Int))), D.i m.I, D.i n.I, D.i o.I, D.i p.I, D.i q.I, D.i r.I, D.l (List.set s.L (Int.toNat (7 : Int)) (updC (List.getD s.L (Int.toNat (7 : Int)) []) [D.b true] 0 0 (List.length [K.bool])))]))))) (T.ite (decide (l.I ≥ i.I)) (T.need (decide ((0 : Int) ≤ (8 : Int) ∧ (8 : Int) < (k.I.toNat : Int))) (T.need (decide (Int.toNat (8 : Int) < s.L.length)) (T.leaf (Rd.again [D.i a.I, D.i b.I, D.i c.I, D.i d.I, D.i e.I, D.i f.I, D.l g.L, D.l h.L, D.i i.I, D.i j.I, D.i (k.I.toNat : Int), D.i (IntKind.wrap IntKind.i64 (l.I + (1 : Int))), D.i m.I, D.i n.I, D.i o.I, D.i p.I, D.i q.I, D.i r.I, D.l (List.set s.L (Int.toNat (8 : Int)) (updC (List.getD s.L (Int.toNat (8 : Int)) []) [D.b true] 0 0 (List.length [K.bool])))])))) (T.leaf (Rd.again [D.i a.I, D.i b.I, D.i c.I, D.i d.I, D.i e.I, D.i f.I, D.l g.L, D.l h.L, D.i i.I, D.i j.I, D.i (k.I.toNat : Int), D.i (IntKind.wrap IntKind.i64 (l.I + (1 : Int))), D.i m.I, D.i n.I, D.i o.I, D.i p.I, D.i q.I, D.i r.I, D.l s.L]))))) (T.ite (decide (D.I (List.getD (List.getD h.L l.I.toNat []) (0 + 1) default) > IntKind.wrap IntKind.i64 (j.I - p.I))) (T.need (decide ((0 : Int) ≤ (7 : Int) ∧ (7 : Int) < (k.I.toNat : Int))) (T.need (decide (Int.toNat (7 : Int) < s.L.length)) (T.ite (decide (l.I ≥ i.I)) (T.need (decide ((0 : Int) ≤ (8 : Int) ∧ (8 : Int) < (k.I.toNat : Int))) (T.need (decide (Int.toNat (8 : Int) < List.length (List.set s.L (Int.toNat (7 : Int)) (updC (List.getD s.L (Int.toNat (7 : Int)) []) [D.b true] 0 0 (List.length [K.bool]))))) (T.leaf (Rd.again [D.i a.I, D.i b.I, D.i c.I, D.i d.I, D.i e.I, D.i f.I, D.l g.L, D.l h.L, D.i i.I, D.i j.I, D.i (k.I.toNat : Int), D.i (IntKind.wrap IntKind.i64 (l.I + (1 : Int))), D.i m.I, D.i n.I, D.i o.I, D.i p.I, D.i q.I, D.i r.I, D.l (List.set (List.set s.L (Int.toNat (7 : Int)) (updC (List.getD s.L (Int.toNat (7 : Int)) []) [D.b true] 0 0 (List.length [K.bool]))) (Int.toNat (8 : Int)) (updC (List.getD (List.set s.L (Int.toNat (7 : Int)) (updC (List.getD s.L (Int.toNat (7 : Int)) []) [D.b true] 0 0 (List.length [K.bool]))) (Int.toNat (8 : Int)) []) [D.b true] 0 0 (List.length [K.bool])))])))) (T.leaf (Rd.again [D.i a.I, D.i b.I, D.i c.I, D.i d.I, D.i e.I, D.i f.I, D.l g.L, D.l h.L, D.i i.I, D.i j.I, D.i (k.I.toNat : Int), D.i (IntKind.wrap IntKind.i64 (l.I + (1 : Int))), D.i m.I, D.i n.I, D.i o.I, D.i p.I, D.i q.I, D.i r.I, D.l (List.set s.L (Int.toNat (7 : Int)) (updC (List.getD s.L (Int.toNat (7 : Int)) []) [D.b true] 0 0 (List.length [K.bool])))]))))) (T.ite (decide (l.I ≥ i.I)) (T.need (decide ((0 : Int) ≤ (8 : Int) ∧ (8 : Int) < (k.I.toNat : Int))) (T.need (decide (Int.toNat (8 : Int) < s.L.length)) (T.leaf (Rd.again [D.i a.I, D.i b.I, D.i c.I, D.i d.I, D.i e.I, D.i f.I, D.l g.L, D.l h.L, D.i i.I, D.i j.I, D.i (k.I.toNat : Int), D.i (IntKind.wrap IntKind.i64 (l.I + (1 : Int))), D.i m.I, D.i n.I, D.i o.I, D.i p.I, D.i q.I, D.i r.I, D.l (List.set s.L (Int.toNat (8 : Int)) (updC (List.getD s.L (Int.toNat (8 : Int)) []) [D.b true] 0 0 (List.length [K.bool])))])))) (T.leaf (Rd.again [D.i a.I, D.i b.I, D.i c.I, D.i d.I, D.i e.I, D.i f.I, D.l g.L, D.l h.L, D.i i.I, D.i j.I, D.i (k.I.toNat : Int), D.i (IntKind.wrap IntKind.i64 (l.I + (1 : Int))), D.i m.I, D.i n.I, D.i o.I, D.i p.I, D.i q.I, D.i r.I, D.l s.L]))))) (T.ite (decide (D.I (List.getD (List.getD h.L l.I.toNat []) (0 + 1) default) > IntKind.wrap IntKind.i64 (j.I - p.I))) (T.need (decide ((0 : Int) ≤ (7 : Int) ∧ (7 : Int) < (k.I.toNat : Int))) (T.need (decide (Int.toNat (7 : Int) < s.L.length)) (T.ite (decide (l.I ≥ i.I)) (T.need (decide ((0 : Int) ≤ (8 : Int) ∧ (8 : Int) < (k.I.toNat : Int))) (T.need (decide (Int.toNat (8 : Int) < List.length (List.set s.L (Int.toNat (7 : Int)) (updC (List.getD s.L (Int.toNat (7 : Int)) []) [D.b true] 0 0 (List.length [K.bool]))))) (T.leaf (Rd.again [D.i a.I, D.i b.I, D.i c.I, D.i d.I, D.i e.I, D.i f.I, D.l g.L, D.l h.L, D.i i.I, D.i j.I, D.i (k.I.toNat : Int), D.i (IntKind.wrap IntKind.i64 (l.I + (1 : Int))), D.i m.I, D.i n.I, D.i o.I, D.i p.I, D.i q.I, D.i r.I, D.l (List.set (List.set s.L (Int.toNat (7 : Int)) (updC (List.getD s.L (Int.toNat (7 : Int)) []) [D.b true] 0 0 (List.length [K.bool]))) (Int.toNat (8 : Int)) (updC (List.getD (List.set s.L (Int.toNat (7 : Int)) (updC (List.getD s.L (Int.toNat (7 : Int)) []) [D.b true] 0 0 (List.length [K.bool]))) (Int.toNat (8 : Int)) []) [D.b true] 0 0 (List.length [K.bool])))])))) (T.leaf (Rd.again [D.i a.I, D.i b.I, D.i c.I, D.i d.I, D.i e.I, D.i f.I, D.l g.L, D.l h.L, D.i i.I, D.i j.I, D.i (k.I.toNat : Int), D.i (IntKind.wrap IntKind.i64 (l.I + (1 : Int))), D.i m.I, D.i n.I, D.i o.I, D.i p.I, D.i q.I, D.i r.I, D.l (List.set s.L (Int.toNat (7 : Int)) (updC (List.getD s.L (Int.toNat (7 : Int)) []) [D.b true] 0 0 (List.length [K.bool])))]))))) (T.ite (decide (l.I ≥ i.I)) (T.need (decide ((0 : Int) ≤ (8 : Int) ∧ (8 : Int) < (k.I.toNat : Int))) (T.need (decide (Int.toNat (8 : Int) < s.L.length)) (T.leaf (Rd.again [D.i a.I, D.i b.I, D.i c.I, D.i d.I, D.i e.I, D.i f.I, D.l g.L, D.l h.L, D.i i.I, D.i j.I, D.i (k.I.toNat : Int), D.i (IntKind.wrap IntKind.i64 (l.I + (1 : Int))), D.i m.I, D.i n.I, D.i o.I, D.i p.I, D.i q.I, D.i r.I, D.l (List.set s.L (Int.toNat (8 : Int)) (updC (List.getD s.L (Int.toNat (8 : Int)) []) [D.b true] 0 0 (List.length [K.bool])))])))) (T.leaf (Rd.again [D.i a.I, D.i b.I, D.i c.I, D.i d.I, D.i e.I, D.i f.I, D.l g.L, D.l h.L, D.i i.I, D.i j.I, D.i (k.I.toNat : Int), D.i (IntKind.wrap IntKind.i64 (l.I + (1 : Int))), D.i m.I, D.i n.I, D.i o.I, D.i p.I, D.i q.I, D.i r.I, D.l s.L]))))) (T.ite (decide (D.I (List.getD (List.getD h.L l.I.toNat []) (0 + 1) default) > IntKind.wrap IntKind.i64 (j.I - p.I))) (T.need (decide ((0 : Int) ≤ (7 : Int) ∧ (7 : Int) < (k.I.toNat : Int))) (T.need (decide (Int.toNat (7 : Int) < s.L.length)) (T.ite (decide (l.I ≥ i.I)) (T.need (decide ((0 : Int) ≤ (8 : Int) ∧ (8 : Int) < (k.I.toNat : Int))) (T.need (decide (Int.toNat (8 : Int) < List.length (List.set s.L (Int.toNat (7 : Int)) (updC (List.getD s.L (Int.toNat (7 : Int)) []) [D.b true] 0 0 (List.length [K.bool]))))) (T.leaf (Rd.again [D.i a.I, D.i b.I, D.i c.I, D.i d.I, D.i e.I, D.i f.I, D.l g.L, D.l h.L, D.i i.I, D.i j.I, D.i (k.I.toNat : Int), D.i (IntKind.wrap IntKind.i64 (l.I + (1 : Int))), D.i m.I, D.i n.I, D.i o.I, D.i p.I, D.i q.I, D.i r.I, D.l (List.set (List.set s.L (Int.toNat (7 : Int)) (updC (List.getD s.L (Int.toNat (7 : Int)) []) [D.b true] 0 0 (List.length [K.bool]))) (Int.toNat (8 : Int)) (updC (List.getD (List.set s.L (Int.toNat (7 : Int)) (updC (List.getD s.L (Int.toNat (7 : Int)) []) [D.b true] 0 0 (List.length [K.bool]))) (Int.toNat (8 : Int)) []) [D.b true] 0 0 (List.length [K.bool])))])))) (T.leaf (Rd.again [D.i a.I, D.i b.I, D.i c.I, D.i d.I, D.i e.I, D.i f.I, D.l g.L, D.l h.L, D.i i.I, D.i j.I, D.i (k.I.toNat : Int), D.i (IntKind.wrap IntKind.i64 (l.I + (1 : Int))), D.i m.I, D.i n.I, D.i o.I, D.i p.I, D.i q.I, D.i r.I, D.l (List.set s.L (Int.toNat (7 : Int)) (updC (List.getD s.L (Int.toNat (7 : Int)) []) [D.b true] 0 0 (List.length [K.bool])))]))))) (T.ite (decide (l.I ≥ i.I)) (T.need (decide ((0 : Int) ≤ (8 : Int) ∧ (8 : Int) < (k.I.toNat : Int))) (T.need (decide (Int.toNat (8 : Int) < s.L.length)) (T.leaf (Rd.again [D.i a.I, D.i b.I, D.i c.I, D.i d.I, D.i e.I, D.i f.I, D.l g.L, D.l h.L, D.i i.I, D.i j.I, D.i (k.I.toNat : Int), D.i (IntKind.wrap IntKind.i64 (l.I + (1 : Int))), D.i m.I, D.i n.I, D.i o.I, D.i p.I, D.i q.I, D.i r.I, D.l (List.set s.L (Int.toNat (8 : Int)) (updC (List.getD s.L (Int.toNat (8 : Int)) []) [D.b true] 0 0 (List.length [K.bool])))])))) (T.leaf (Rd.again [D.i a.I, D.i b.I, D.i c.I, D.i d.I, D.i e.I, D.i f.I, D.l g.L, D.l h.L, D.i i.I, D.i j.I, D.i (k.I.toNat : Int), D.i (IntKind.wrap IntKind.i64 (l.I + (1 : Int))), D.i m.I, D.i n.I, D.i o.I, D.i p.I, D.i q.I, D.i r.I, D.l s.L])))))) (T.ite (!D.B (List.getD (List.getD h.L l.I.toNat []) (0 + 1 + 1 + 1) default)) (T.ite (!D.B (List.getD (List.getD h.L l.I.toNat []) (0 + 1 + 1 + 1 + 1) default)) (T.ite (decide (D.I (List.getD (List.getD h.L l.I.toNat []) (0 + 1 + 1) default) < IntKind.wrap IntKind.i64 (m.I - (1 : Int)))) (T.ite (decide (D.I (List.getD (List.getD h.L l.I.toNat []) (0 + 1) default) < IntKind.wrap IntKind.i64 (j.I - q.I))) (T.need (decide ((0 : Int) ≤ (6 : Int) ∧ (6 : Int) < (k.I.toNat : Int))) (T.need (decide (Int.toNat (6 : Int) < s.L.length)) (T.ite (decide (D.I (List.getD (List.getD h.L l.I.toNat []) (0 + 1) default) > IntKind.wrap IntKind.i64 (j.I - p.I))) (T.need (decide ((0 : Int) ≤ (7 : Int) ∧ (7 : Int) < (k.I.toNat : Int))) (T.need (decide (Int.toNat (7 : Int) < List.length (List.set s.L (Int.toNat (6 : Int)) (updC (List.getD s.L (Int.toNat (6 : Int)) []) [D.b true] 0 0 (List.length [K.bool]))))) (T.ite (decide (l.I ≥ i.I)) (T.need (decide ((0 : Int) ≤ (8 : Int) ∧ (8 : Int) < (k.I.toNat : Int))) (T.need (decide (Int.toNat (8 : Int) < List.length (List.set (List.set s.L (Int.toNat (6 : Int)) (updC (List.getD s.L (Int.toNat (6 : Int)) []) [D.b true] 0 0 (List.length [K.bool]))) (Int.toNat (7 : Int)) (updC (List.getD (List.set s.L (Int.toNat (6 : Int)) (updC (List.getD s.L (Int.toNat (6 : Int)) []) [D.b true] 0 0 (List.length [K.bool]))) (Int.toNat (7 : Int)) []) [D.b true] 0 0 (List.length [K.bool]))))) (T.leaf (Rd.again [D.i a.I, D.i b.I, D.i c.I, D.i d.I, D.i e.I, D.i f.I, D.l g.L, D.l h.L, D.i i.I, D.i j.I, D.i (k.I.toNat : Int), D.i (IntKind.wrap IntKind.i64 (l.I + (1 : Int))), D.i m.I, D.i n.I, D.i o.I, D.i p.I, D.i q.I, D.i r.I, D.l (List.set (List.set (List.set s.L (Int.toNat (6 : Int)) (updC (List.getD s.L (Int.toNat (6 : Int)) []) [D.b true] 0 0 (List.length [K.bool]))) (Int.toNat (7 : Int)) (updC (List.getD (List.set s.L (Int.toNat (6 : Int)) (updC (List.getD s.L (Int.toNat (6 : Int)) []) [D.b true] 0 0 (List.length [K.bool]))) (Int.toNat (7 : Int)) []) [D.b true] 0 0 (List.length [K.bool]))) (Int.toNat (8 : Int)) (updC (List.getD (List.set (List.set s.L (Int.toNat (6 : Int)) (updC (List.getD s.L (Int.toNat (6 : Int)) []) [D.b true] 0 0 (List.length [K.bool]))) (Int.toNat (7 : Int)) (updC (List.getD (List.set s.L (Int.toNat (6 : Int)) (updC (List.getD s.L (Int.toNat (6 : Int)) []) [D.b true] 0 0 (List.length [K.bool]))) (Int.toNat (7 : Int)) []) [D.b true] 0 0 (List.length [K.bool]))) (Int.toNat (8 : Int)) []) [D.b true] 0 0 (List.length [K.bool])))])))) (T.leaf (Rd.again [D.i a.I, D.i b.I, D.i c.I, D.i d.I, D.i e.I, D.i f.I, D.l g.L, D.l h.L, D.i i.I, D.i j.I, D.i (k.I.toNat : Int), D.i (IntKind.wrap IntKind.i64 (l.I + (1 : Int))), D.i m.I, D.i n.I, D.i o.I, D.i p.I, D.i q.I, D.i r.I, D.l (List.set (List.set s.L (Int.toNat (6 : Int)) (updC (List.getD s.L (Int.toNat (6 : Int)) []) [D.b true] 0 0 (List.length [K.bool]))) (Int.toNat (7 : Int)) (updC (List.getD (List.set s.L (Int.toNat (6 : Int)) (updC (List.getD s.L (Int.toNat (6 : Int)) []) [D.b true] 0 0 (List.length [K.bool]))) (Int.toNat (7 : Int)) []) [D.b true] 0 0 (List.length [K.bool])))]))))) (T.ite (decide (l.I ≥ i.I)) (T.need (decide ((0 : Int) ≤ (8 : Int) ∧ (8 : Int) < (k.I.toNat : Int))) (T.need (decide (Int.toNat (8 : Int) < List.length (List.set s.L (Int.toNat (6 : Int)) (updC (List.getD s.L (Int.toNat (6 : Int)) []) [D.b true] 0 0 (List.length [K.bool]))))) (T.leaf (Rd.again [D.i a.I, D.i b.I, D.i c.I, D.i d.I, D.i e.I, D.i f.I, D.l g.L, D.l h.L, D.i i.I, D.i j.I, D.i (k.I.toNat : Int), D.i (IntKind.wrap IntKind.i64 (l.I + (1 : Int))), D.i m.I, D.i n.I, D.i o.I, D.i p.I, D.i q.I, D.i r.I, D.l (List.set (List.set s.L (Int.toNat (6 : Int)) (updC (List.getD s.L (Int.toNat (6 : Int)) []) [D.b true] 0 0 (List.length [K.bool]))) (Int.toNat (8 : Int)) (updC (List.getD (List.set s.L (Int.toNat (6 : Int)) (updC (List.getD s.L (Int.toNat (6 : Int)) []) [D.b true] 0 0 (List.length [K.bool]))) (Int.toNat (8 : Int)) []) [D.b true] 0 0 (List.length [K.bool])))])))) (T.leaf (Rd.again [D.i a.I, D.i b.I, D.i c.I, D.i d.I, D.i e.I, D.i f.I, D.l g.L, D.l h.L, D.i i.I, D.i j.I, D.i (k.I.toNat : Int), D.i (IntKind.wrap IntKind.i64 (l.I + (1 : Int))), D.i m.I, D.i n.I, D.i o.I, D.i p.I, D.i q.I, D.i r.I, D.l (List.set s.L (Int.toNat (6 : Int)) (updC (List.getD s.L (Int.toNat (6 : Int)) []) [D.b true] 0 0 (List.length [K.bool])))])))))) (T.ite (decide (D.I (List.getD (List.getD h.L l.I.toNat []) (0 + 1) default) > IntKind.wrap IntKind.i64 (j.I - p.I))) (T.need (decide ((0 : Int) ≤ (7 : Int) ∧ (7 : Int) < (k.I.toNat : Int))) (T.need (decide (Int.toNat (7 : Int) < s.L.length)) (T.ite (decide (l.I ≥ i.I)) (T.need (decide ((0 : Int) ≤ (8 : Int) ∧ (8 : Int) < (k.I.toNat : Int))) (T.need (decide (Int.toNat (8 : Int) < List.length (List.set s.L (Int.toNat (7 : Int)) (updC (List.getD s.L (Int.toNat (7 : Int)) []) [D.b true] 0 0 (List.length [K.bool]))))) (T.leaf (Rd.again [D.i a.I, D.i b.I, D.i c.I, D.i d.I, D.i e.I, D.i f.I, D.l g.L, D.l h.L, D.i i.I, D.i j.I, D.i (k.I.toNat : Int), D.i (IntKind.wrap IntKind.i64 (l.I + (1 : Int))), D.i m.I, D.i n.I, D.i o.I, D.i p.I, D.i q.I, D.i r.I, D.l (List.set (List.set s.L (Int.toNat (7 : Int)) (updC (List.getD s.L (Int.toNat (7 : Int)) []) [D.b true] 0 0 (List.length [K.bool]))) (Int.toNat (8 : Int)) (updC (List.getD (List.set s.L (Int.toNat (7 : Int)) (updC (List.getD s.L (Int.toNat (7 : Int)) []) [D.b true] 0 0 (List.length [K.bool]))) (Int.toNat (8 : Int)) []) [D.b true] 0 0 (List.length [K.bool])))])))) (T.leaf (Rd.again [D.i a.I, D.i b.I, D.i c.I, D.i d.I, D.i e.I, D.i f.I, D.l g.L, D.l h.L, D.i i.I, D.i j.I, D.i (k.I.toNat : Int), D.i (IntKind.wrap IntKind.i64 (l.I + (1 : Int))), D.i m.I, D.i n.I, D.i o.I, D.i p.I, D.i q.I, D.i r.I, D.l (List.set s.L (Int.toNat (7 : Int)) (updC (List.getD s.L (Int.toNat (7 : Int)) []) [D.b true] 0 0 (List.length [K.bool])))]))))) (T.ite (decide (l.I ≥ i.I)) (T.need (decide ((0 : Int) ≤ (8 : Int) ∧ (8 : Int) < (k.I.toNat : Int))) (T.need (decide (Int.toNat (8 : Int) < s.L.length)) (T.leaf (Rd.again [D.i a.I, D.i b.I, D.i c.I, D.i d.I, D.i e.I, D.i f.I, D.l g.L, D.l h.L, D.i i.I, D.i j.I, D.i (k.I.toNat : Int), D.i (IntKind.wrap IntKind.i64 (l.I + (1 : Int))), D.i m.I, D.i n.I, D.i o.I, D.i p.I, D.i q.I, D.i r.I, D.l (List.set s.L (Int.toNat (8 : Int)) (updC (List.getD s.L (Int.toNat (8 : Int)) []) [D.b true] 0 0 (List.length [K.bool])))])))) (T.leaf (Rd.again [D.i a.I, D.i b.I, D.i c.I, D.i d.I, D.i e.I, D.i f.I, D.l g.L, D.l h.L, D.i i.I, D.i j.I, D.i (k.I.toNat : Int), D.i (IntKind.wrap IntKind.i64 (l.I + (1 : Int))), D.i m.I, D.i n.I, D.i o.I, D.i p.I, D.i q.I, D.i r.I, D.l s.L]))))) (T.ite (decide (D.I (List.getD (List.getD h.L l.I.toNat []) (0 + 1) default) > IntKind.wrap IntKind.i64 (j.I - p.I))) (T.need (decide ((0 : Int) ≤ (7 : Int) ∧ (7 : Int) < (k.I.toNat : Int))) (T.need (decide (Int.toNat (7 : Int) < s.L.length)) (T.ite (decide (l.I ≥ i.I)) (T.need (decide ((0 : Int) ≤ (8 : Int) ∧ (8 : Int) < (k.I.toNat : Int))) (T.need (decide (Int.toNat (8 : Int) < List.length (List.set s.L (Int.toNat (7 : Int)) (updC (List.getD s.L (Int.toNat (7 : Int)) []) [D.b true] 0 0 (List.length [K.bool]))))) (T.leaf (Rd.again [D.i a.I, D.i b.I, D.i c.I, D.i d.I, D.i e.I, D.i f.I, D.l g.L, D.l h.L, D.i i.I, D.i j.I, D.i (k.I.toNat : Int), D.i (IntKind.wrap IntKind.i64 (l.I + (1 : Int))), D.i m.I, D.i n.I, D.i o.I, D.i p.I, D.i q.I, D.i r.I, D.l (List.set (List.set s.L (Int.toNat (7 : Int)) (updC (List.getD s.L (Int.toNat (7 : Int)) []) [D.b true] 0 0 (List.length [K.bool]))) (Int.toNat (8 : Int)) (updC (List.getD (List.set s.L (Int.toNat (7 : Int)) (updC (List.getD s.L (Int.toNat (7 : Int)) []) [D.b true] 0 0 (List.length [K.bool]))) (Int.toNat (8 : Int)) []) [D.b true] 0 0 (List.length [K.bool])))])))) (T.leaf (Rd.again [D.i a.I, D.i b.I, D.i c.I, D.i d.I, D.i e.I, D.i f.I, D.l g.L, D.l h.L, D.i i.I, D.i j.I, D.i (k.I.toNat : Int), D.i (IntKind.wrap IntKind.i64 (l.I + (1 : Int))), D.i m.I, D.i n.I, D.i o.I, D.i p.I, D.i q.I, D.i r.I, D.l (List.set s.L (Int.toNat (7 : Int)) (updC (List.getD s.L (Int.toNat (7 : Int)) []) [D.b true] 0 0 (List.length [K.bool])))]))))) (T.ite (decide (l.I ≥ i.I)) (T.need (decide ((0 : Int) ≤ (8 : Int) ∧ (8 : Int) < (k.I.toNat : Int))) (T.need (decide (Int.toNat (8 : Int) < s.L.length)) (T.leaf (Rd.again [D.i a.I, D.i b.I, D.i c.I, D.i d.I, D.i e.I, D.i f.I, D.l g.L, D.l h.L, D.i i.I, D.i j.I, D.i (k.I.toNat : Int), D.i (IntKind.wrap IntKind.i64 (l.I + (1 : Int))), D.i m.I, D.i n.I, D.i o.I, D.i p.I, D.i q.I, D.i r.I, D.l (List.set s.L (Int.toNat (8 : Int)) (updC (List.getD s.L (Int.toNat (8 : Int)) []) [D.b true] 0 0 (List.length [K.bool])))])))) (T.leaf (Rd.again [D.i a.I, D.i b.I, D.i c.I, D.i d.I, D.i e.I, D.i f.I, D.l g.L, D.l h.L, D.i i.I, D.i j.I, D.i (k.I.toNat : Int), D.i (IntKind.wrap IntKind.i64 (l.I + (1 : Int))), D.i m.I, D.i n.I, D.i o.I, D.i p.I, D.i q.I, D.i r.I, D.l s.L]))))) (T.ite (decide (D.I (List.getD (List.getD h.L l.I.toNat []) (0 + 1) default) > IntKind.wrap IntKind.i64 (j.I - p.I))) (T.need (decide ((0 : Int) ≤ (7 : Int) ∧ (7 : Int) < (k.I.toNat : Int))) (T.need (decide (Int.toNat (7 : Int) < s.L.length)) (T.ite (decide (l.I ≥ i.I)) (T.need (decide ((0 : Int) ≤ (8 : Int) ∧ (8 : Int) < (k.I.toNat : Int))) (T.need (decide (Int.toNat (8 : Int) < List.length (List.set s.L (Int.toNat (7 : Int)) (updC (List.getD s.L (Int.toNat (7 : Int)) []) [D.b true] 0 0 (List.length [K.bool]))))) (T.leaf (Rd.again [D.i a.I, D.i b.I, D.i c.I, D.i d.I, D.i e.I, D.i f.I, D.l g.L, D.l h.L, D.i i.I, D.i j.I, D.i (k.I.toNat : Int), D.i (IntKind.wrap IntKind.i64 (l.I + (1 : Int))), D.i m.I, D.i n.I, D.i o.I, D.i p.I, D.i q.I, D.i r.I, D.l (List.set (List.set s.L (Int.toNat (7 : Int)) (updC (List.getD s.L (Int.toNat (7 : Int)) []) [D.b true] 0 0 (List.length [K.bool]))) (Int.toNat (8 : Int)) (updC (List.getD (List.set s.L (Int.toNat (7 : Int)) (updC (List.getD s.L (Int.toNat (7 : Int)) []) [D.b true] 0 0 (List.length [K.bool]))) (Int.toNat (8 : Int)) []) [D.b true] 0 0 (List.length [K.bool])))])))) (T.leaf (Rd.again [D.i a.I, D.i b.I, D.i c.I, D.i d.I, D.i e.I, D.i f.I, D.l g.L, D.l h.L, D.i i.I, D.i j.I, D.i (k.I.toNat : Int), D.i (IntKind.wrap IntKind.i64 (l.I + (1 : Int))), D.i m.I, D.i n.I, D.i o.I, D.i p.I, D.i q.I, D.i r.I, D.l (List.set s.L (Int.toNat (7 : Int)) (updC (List.getD s.L (Int.toNat (7 : Int)) []) [D.b true] 0 0 (List.length [K.bool])))]))))) (T.ite (decide (l.I ≥ i.I)) (T.need (decide ((0 : Int) ≤ (8 : Int) ∧ (8 : Int) < (k.I.toNat : Int))) (T.need (decide (Int.toNat (8 : Int) < s.L.length)) (T.leaf (Rd.again [D.i a.I, D.i b.I, D.i c.I, D.i d.I, D.i e.I, D.i f.I, D.l g.L, D.l h.L, D.i i.I, D.i j.I, D.i (k.I.toNat : Int), D.i (IntKind.wrap IntKind.i64 (l.I + (1 : Int))), D.i m.I, D.i n.I, D.i o.I, D.i p.I, D.i q.I, D.i r.I, D.l (List.set s.L (Int.toNat (8 : Int)) (updC (List.getD s.L (Int.toNat (8 : Int)) []) [D.b true] 0 0 (List.length [K.bool])))])))) (T.leaf (Rd.again [D.i a.I, D.i b.I, D.i c.I, D.i d.I, D.i e.I, D.i f.I, D.l g.L, D.l h.L, D.i i.I, D.i j.I, D.i (k.I.toNat : Int), D.i (IntKind.wrap IntKind.i64 (l.I + (1 : Int))), D.i m.I, D.i n.I, D.i o.I, D.i p.I, D.i q.I, D.i r.I, D.l s.L]))))) (T.ite (decide (D.I (List.getD (List.getD h.L l.I.toNat []) (0 + 1) default) > IntKind.wrap IntKind.i64 (j.I - p.I))) (T.need (decide ((0 : Int) ≤ (7 : Int) ∧ (7 : Int) < (k.I.toNat : Int))) (T.need (decide (Int.toNat (7 : Int) < s.L.length)) (T.ite (decide (l.I ≥ i.I)) (T.need (decide ((0 : Int) ≤ (8 : Int) ∧ (8 : Int) < (k.I.toNat : Int))) (T.need (decide (Int.toNat (8 : Int) < List.length (List.set s.L (Int.toNat (7 : Int)) (updC (List.getD s.L (Int.toNat (7 : Int)) []) [D.b true] 0 0 (List.length [K.bool]))))) (T.leaf (Rd.again [D.i a.I, D.i b.I, D.i c.I, D.i d.I, D.i e.I, D.i f.I, D.l g.L, D.l h.L, D.i i.I, D.i j.I, D.i (k.I.toNat : Int), D.i (IntKind.wrap IntKind.i64 (l.I + (1 : Int))), D.i m.I, D.i n.I, D.i o.I, D.i p.I, D.i q.I, D.i r.I, D.l (List.set (List.set s.L (Int.toNat (7 : Int)) (updC (List.getD s.L (Int.toNat (7 : Int)) []) [D.b true] 0 0 (List.length [K.bool]))) (Int.toNat (8 : Int)) (updC (List.getD (List.set s.L (Int.toNat (7 : Int)) (updC (List.getD s.L (Int.toNat (7 : Int)) []) [D.b true] 0 0 (List.length [K.bool]))) (Int.toNat (8 : Int)) []) [D.b true] 0 0 (List.length [K.bool])))])))) (T.leaf (Rd.again [D.i a.I, D.i b.I, D.i c.I, D.i d.I, D.i e.I, D.i f.I, D.l g.L, D.l h.L, D.i i.I, D.i j.I, D.i (k.I.toNat : Int), D.i (IntKind.wrap IntKind.i64 (l.I + (1 : Int))), D.i m.I, D.i n.I, D.i o.I, D.i p.I, D.i q.I, D.i r.I, D.l (List.set s.L (Int.toNat (7 : Int)) (updC (List.getD s.L (Int.toNat (7 : Int)) []) [D.b true] 0 0 (List.length [K.bool])))]))))) (T.ite (decide (l.I ≥ i.I)) (T.need (decide ((0 : Int) ≤ (8 : Int) ∧ (8 : Int) < (k.I.toNat : Int))) (T.need (decide (Int.toNat (8 : Int) < s.L.length)) (T.leaf (Rd.again [D.i a.I, D.i b.I, D.i c.I, D.i d.I, D.i e.I, D.i f.I, D.l g.L, D.l h.L, D.i i.I, D.i j.I, D.i (k.I.toNat : Int), D.i (IntKind.wrap IntKind.i64 (l.I + (1 : Int))), D.i m.I, D.i n.I, D.i o.I, D.i p.I, D.i q.I, D.i r.I, D.l (List.set s.L (Int.toNat (8 : Int)) (updC (List.getD s.L (Int.toNat (8 : Int)) []) [D.b true] 0 0 (List.length [K.bool])))])))) (T.leaf (Rd.again [D.i a.I, D.i b.I, D.i c.I, D.i d.I, D.i e.I, D.i f.I, D.l g.L, D.l h.L, D.i i.I, D.i j.I, D.i (k.I.toNat : Int), D.i (IntKind.wrap IntKind.i64 (l.I + (1 : Int))), D.i m.I, D.i n.I, D.i o.I, D.i p.I, D.i q.I, D.i r.I, D.l s.L])))))))) (T.leaf (Rd.out (Ex.exit 2) [D.i (k.I.toNat : Int), D.l s.L])) := by kernel_rfl
theorem t60_28_0 (a b c : D) : roundT C tab60 60 (loopOf C.P 60 28) l60_28 [.i 0, a, b, c] =
  T.ite (decide (b.I ≤ (8 : Int))) (T.need (decide ((0 : Int) ≤ b.I ∧ b.I < (a.I.toNat : Int))) (T.need (decide (b.I.toNat < c.L.length)) (T.ite (D.B (List.getD (List.getD c.L b.I.toNat []) 0 default)) (T.need true (T.ite false (T.leaf (Rd.again [D.i 0, D.i (a.I.toNat : Int), D.i (IntKind.wrap IntKind.i64 (b.I + (1 : Int))), D.l c.L])) (T.need true (T.leaf (Rd.again [D.i 1, D.i (a.I.toNat : Int), D.i 1, D.i (IntKind.wrap IntKind.i64 (b.I + (1 : Int))), D.l c.L, D.l [[D.i b.I]]]))))) (T.leaf (Rd.again [D.i 0, D.i (a.I.toNat : Int), D.i (IntKind.wrap IntKind.i64 (b.I + (1 : Int))), D.l c.L]))))) (T.leaf (Rd.out (Ex.exit 4) [D.i 0])) := by kernel_rfl
theorem t60_28_1 (a b c d e : D) : roundT C tab60 60 (loopOf C.P 60 28) l60_28 [.i 1, a, b, c, d, e] =
  T.ite (decide (c.I ≤ (8 : Int))) (T.need (decide ((0 : Int) ≤ c.I ∧ c.I < (a.I.toNat : Int))) (T.need (decide (c.I.toNat < d.L.length)) (T.ite (D.B (List.getD (List.getD d.L c.I.toNat []) 0 default)) (T.need true (T.ite false (T.leaf (Rd.again [D.i 1, D.i (a.I.toNat : Int), D.i (b.I.toNat : Int), D.i (IntKind.wrap IntKind.i64 (c.I + (1 : Int))), D.l d.L, D.l e.L])) (T.need (decide (b.I.toNat ≤ e.L.length ∧ b.I.toNat + List.length (List.take (List.length [[D.i c.I]]) [[D.i c.I]]) ≤ 2 ^ 62 ∧ (b.I.toNat + List.length (List.take (List.length [[D.i c.I]]) [[D.i c.I]])) * Try.prog.types[109].bytes ≤ 2 ^ 47)) (T.leaf (Rd.again [D.i 1, D.i (a.I.toNat : Int), D.i (↑(b.I.toNat + List.length (List.take (List.length [[D.i c.I]]) [[D.i c.I]])) : Int), D.i (IntKind.wrap IntKind.i64 (c.I + (1 : Int))), D.l d.L, D.l (List.take b.I.toNat e.L ++ List.take (List.length [[D.i c.I]]) [[D.i c.I]])]))))) (T.leaf (Rd.again [D.i 1, D.i (a.I.toNat : Int), D.i (b.I.toNat : Int), D.i (IntKind.wrap IntKind.i64 (c.I + (1 : Int))), D.l d.L, D.l e.L]))))) (T.leaf (Rd.out (Ex.exit 4) [D.i 1, D.i (b.I.toNat : Int), D.l e.L])) := by kernel_rfl
end Go.Proofs.Ytgmefblkmidglaa
namespace Go.Proofs.Ytgmefblkmidglaa
open Go.Lite
set_option linter.unusedVariables false
set_option maxRecDepth 100000
theorem t35 (a b c d e f : D) : (fnT C tab35 35 s35 [a, b, c, d, e, f]).run =
  T.run (T.ite (within a.I (1 : Int) (60 : Int)) (T.ite (within b.I (1 : Int) (100000 : Int)) (T.ite (within c.I (1 : Int) a.I) (T.ite (within d.I (0 : Int) (100000 : Int)) (T.ite (within e.I (1 : Int) (100000 : Int)) (T.leaf [D.b (within f.I (1 : Int) (200 : Int))]) (T.leaf [D.b false])) (T.leaf [D.b false])) (T.leaf [D.b false])) (T.leaf [D.b false])) (T.leaf [D.b false])) := by kernel_rfl
theorem t34 (a b c d e f : D) : (fnT C tab34 34 s34 [a, b, c, d, e, f]).run =
  T.run (T.ite (!within a.I (1 : Int) (60 : Int)) (T.leaf [D.i 0, D.i 2]) (T.ite (!within b.I (1 : Int) (100000 : Int)) (T.leaf [D.i 0, D.i 2]) (T.ite (!within c.I (1 : Int) a.I) (T.leaf [D.i 0, D.i 2]) (T.ite (!within d.I (0 : Int) (100000 : Int)) (T.leaf [D.i 0, D.i 2]) (T.ite (!within e.I (1 : Int) (100000 : Int)) (T.leaf [D.i 0, D.i 2]) (T.ite (!within f.I (1 : Int) (200 : Int)) (T.leaf [D.i 0, D.i 2]) (T.need (decide ((0 : Int) ≤ a.I ∧ a.I = a.I ∧ a.I ≤ (2 : Int) ^ 40 ∧ (↑Try.prog.types[100].bytes : Int) * a.I ≤ (2 : Int) ^ 46)) (T.need (decide ((0 : Int) ≤ a.I ∧ a.I = a.I ∧ a.I ≤ (2 : Int) ^ 40 ∧ (↑Try.prog.types[100].bytes : Int) * a.I ≤ (2 : Int) ^ 46)) (T.need (decide ((0 : Int) ≤ f.I ∧ f.I = f.I ∧ f.I ≤ (2 : Int) ^ 40 ∧ (↑Try.prog.types[93].bytes : Int) * f.I ≤ (2 : Int) ^ 46)) (T.need (yes (((↑(List.length (List.replicate a.I.toNat [D.b false, D.i 0, D.b false])) : Int) = (↑(List.length (List.replicate a.I.toNat [D.b false, D.i 0, D.b false])) : Int) ∧ (↑(List.length (List.replicate a.I.toNat [D.b false, D.i 0, D.b false])) : Int) = (↑(List.length (List.replicate a.I.toNat [D.b false, D.i 0, D.b false])) : Int) ∧ (↑(List.length (List.replicate f.I.toNat [D.b false, D.i 0, D.i 0, D.b false, D.b false])) : Int) = (↑(List.length (List.replicate f.I.toNat [D.b false, D.i 0, D.i 0, D.b false, D.b false])) : Int)) ∧ (↑(List.length (List.replicate f.I.toNat [D.b false, D.i 0, D.i 0, D.b false, D.b false])) : Int) = (↑(List.length (List.replicate f.I.toNat [D.b false, D.i 0, D.i 0, D.b false, D.b false])) : Int) ∧ List.length (List.replicate f.I.toNat [D.b false, D.i 0, D.i 0, D.b false, D.b false]) ≤ 200 ∧ ((0 : Int) ≤ (0 : Int) ∧ (0 : Int) ≤ (↑(List.length (List.replicate f.I.toNat [D.b false, D.i 0, D.i 0, D.b false, D.b false])) : Int)) ∧ List.replicate f.I.toNat [D.b false, D.i 0, D.i 0, D.b false, D.b false] = List.replicate (Int.toNat (0 : Int)) ca1 ++ List.replicate (List.length (List.replicate f.I.toNat [D.b false, D.i 0, D.i 0, D.b false, D.b false]) - Int.toNat (0 : Int)) ca0)) (T.leaf [D.i 1, D.i 0, D.i a.I, D.i b.I, D.i c.I, D.i d.I, D.i e.I, D.i f.I, D.b false, D.i 0, D.b false, D.b false, D.i 0, D.b false, D.i (↑(Int.toNat (↑(List.length (List.replicate a.I.toNat [D.b false, D.i 0, D.b false])) : Int)) : Int), D.i (↑(Int.toNat (↑(List.length (List.replicate a.I.toNat [D.b false, D.i 0, D.b false])) : Int)) : Int), D.i (↑(Int.toNat (↑(List.length (List.replicate f.I.toNat [D.b false, D.i 0, D.i 0, D.b false, D.b false])) : Int)) : Int), D.l (List.replicate a.I.toNat [D.b false, D.i 0, D.b false]), D.l (List.replicate a.I.toNat [D.b false, D.i 0, D.b false]), D.l (List.replicate (List.length (List.replicate f.I.toNat [D.b false, D.i 0, D.i 0, D.b false, D.b false])) ca1)]))))))))))) := by kernel_rfl
theorem t34_5 (a b c d e f g h i j k l m n o p q r s t : D) : (roundT C tab34 34 (loopOf C.P 34 5) l34_5 [a, b, c, d, e, f, g, h, i, j, k, l, m, n, o, p, q, r, s, t]).run =
  T.run (T.ite (decide (b.I < a.I)) (T.need (decide ((0 : Int) ≤ b.I ∧ b.I < (q.I.toNat : Int))) (T.need (decide (b.I.toNat < t.L.length)) (T.leaf (Rd.again [D.i a.I, D.i (IntKind.wrap IntKind.i64 (b.I + (1 : Int))), D.i c.I, D.i d.I, D.i e.I, D.i f.I, D.i g.I, D.i h.I, D.b i.B, D.i j.I, D.b k.B, D.b l.B, D.i m.I, D.b n.B, D.i (o.I.toNat : Int), D.i (p.I.toNat : Int), D.i (q.I.toNat : Int), D.l r.L, D.l s.L, D.l (List.set t.L b.I.toNat (updC (List.getD t.L b.I.toNat []) [D.i (-1 : Int)] (0 + 2) 0 (List.length [K.bool, K.int IntKind.i64, K.int IntKind.i64, K.bool, K.bool])))])))) (T.leaf (Rd.out (Ex.exit 0) [D.i c.I, D.i d.I, D.i e.I, D.i f.I, D.i g.I, D.i h.I, D.b i.B, D.i j.I, D.b k.B, D.b l.B, D.i m.I, D.b n.B, D.i (o.I.toNat : Int), D.i (p.I.toNat : Int), D.i (q.I.toNat : Int), D.l r.L, D.l s.L, D.l t.L]))) := by kernel_rfl
theorem t36 (a b c d e f : D) : (fnT C tab36 36 s36 [a, b, c, d, e, f]).run =
  T.run (T.need (decide ((0 : Int) ≤ f.I ∧ f.I = f.I ∧ f.I ≤ (2 : Int) ^ 40 ∧ (↑Try.prog.types[93].bytes : Int) * f.I ≤ (2 : Int) ^ 46)) (T.need (yes ((↑(List.length (List.replicate f.I.toNat [D.b false, D.i 0, D.i 0, D.b false, D.b false])) : Int) = (↑(List.length (List.replicate f.I.toNat [D.b false, D.i 0, D.i 0, D.b false, D.b false])) : Int) ∧ f.I = (↑(List.length (List.replicate f.I.toNat [D.b false, D.i 0, D.i 0, D.b false, D.b false])) : Int) ∧ List.length (List.replicate f.I.toNat [D.b false, D.i 0, D.i 0, D.b false, D.b false]) ≤ 200 ∧ ((0 : Int) ≤ (0 : Int) ∧ (0 : Int) ≤ (↑(List.length (List.replicate f.I.toNat [D.b false, D.i 0, D.i 0, D.b false, D.b false])) : Int)) ∧ List.replicate f.I.toNat [D.b false, D.i 0, D.i 0, D.b false, D.b false] = List.replicate (Int.toNat (0 : Int)) ca1 ++ List.replicate (List.length (List.replicate f.I.toNat [D.b false, D.i 0, D.i 0, D.b false, D.b false]) - Int.toNat (0 : Int)) ca0)) (T.leaf [D.i a.I, D.i b.I, D.i c.I, D.i d.I, D.i e.I, D.i f.I, D.i (↑(Int.toNat (↑(List.length (List.replicate f.I.toNat [D.b false, D.i 0, D.i 0, D.b false, D.b false])) : Int)) : Int), D.l (List.replicate (List.length (List.replicate f.I.toNat [D.b false, D.i 0, D.i 0, D.b false, D.b false])) ca1)]))) := by kernel_rfl
theorem t36_3 (a b c d e f g h i j k l m n o : D) : (roundT C tab36 36 (loopOf C.P 36 3) l36_3 [a, b, c, d, e, f, g, h, i, j, k, l, m, n, o]).run =
  T.run (T.ite (decide (a.I < g.I)) (T.need (decide ((0 : Int) ≤ a.I ∧ a.I < (n.I.toNat : Int))) (T.need (decide (a.I.toNat < o.L.length)) (T.leaf (Rd.again [D.i (IntKind.wrap IntKind.i64 (a.I + (1 : Int))), D.i b.I, D.i c.I, D.i d.I, D.i e.I, D.i f.I, D.i g.I, D.i h.I, D.i i.I, D.i j.I, D.i k.I, D.i l.I, D.i m.I, D.i (n.I.toNat : Int), D.l (List.set o.L a.I.toNat (updC (List.getD o.L a.I.toNat []) [D.i (-1 : Int)] (0 + 2) 0 (List.length [K.bool, K.int IntKind.i64, K.int IntKind.i64, K.bool, K.bool])))])))) (T.leaf (Rd.out (Ex.exit 0) [D.i h.I, D.i i.I, D.i j.I, D.i k.I, D.i l.I, D.i m.I, D.i (n.I.toNat : Int), D.l o.L]))) := by kernel_rfl
theorem t58 (a b c d e f g h i j : D) : (fnT C tab58 58 s58 [a, b, c, d, e, f, g, h, i, j]).run =
  T.run (T.ite (decide (g.I < (1 : Int))) (T.leaf [D.b false]) (T.ite (decide (g.I > (10 : Int))) (T.leaf [D.b false]) (T.ite (!within h.I (0 : Int) (100000 : Int)) (T.leaf [D.b false]) (T.ite (g.I == (3 : Int)) (T.ite (g.I == (8 : Int)) (T.ite (!within i.I (0 : Int) (IntKind.wrap IntKind.i64 (a.I - (1 : Int)))) (T.leaf [D.b false]) (T.ite (within j.I (0 : Int) (IntKind.wrap IntKind.i64 (f.I - (1 : Int)))) (T.leaf [D.b true]) (T.leaf [D.b false]))) (T.ite (g.I == (9 : Int)) (T.ite (!within i.I (0 : Int) (IntKind.wrap IntKind.i64 (a.I - (1 : Int)))) (T.leaf [D.b false]) (T.ite (within j.I (0 : Int) (IntKind.wrap IntKind.i64 (f.I - (1 : Int)))) (T.leaf [D.b true]) (T.leaf [D.b false]))) (T.ite (!within i.I (0 : Int) (IntKind.wrap IntKind.i64 (a.I - (1 : Int)))) (T.leaf [D.b false]) (T.ite (g.I == (10 : Int)) (T.ite (within j.I (0 : Int) (IntKind.wrap IntKind.i64 (f.I - (1 : Int)))) (T.leaf [D.b true]) (T.ite (!g.I == (10 : Int)) (T.leaf [D.b (j.I == (0 : Int))]) (T.leaf [D.b false]))) (T.ite (!g.I == (10 : Int)) (T.leaf [D.b (j.I == (0 : Int))]) (T.leaf [D.b false])))))) (T.ite (g.I == (4 : Int)) (T.ite (g.I == (8 : Int)) (T.ite (!within i.I (0 : Int) (IntKind.wrap IntKind.i64 (a.I - (1 : Int)))) (T.leaf [D.b false]) (T.ite (within j.I (0 : Int) (IntKind.wrap IntKind.i64 (f.I - (1 : Int)))) (T.leaf [D.b true]) (T.leaf [D.b false]))) (T.ite (g.I == (9 : Int)) (T.ite (!within i.I (0 : Int) (IntKind.wrap IntKind.i64 (a.I - (1 : Int)))) (T.leaf [D.b false]) (T.ite (within j.I (0 : Int) (IntKind.wrap IntKind.i64 (f.I - (1 : Int)))) (T.leaf [D.b true]) (T.leaf [D.b false]))) (T.ite (!within i.I (0 : Int) (IntKind.wrap IntKind.i64 (a.I - (1 : Int)))) (T.leaf [D.b false]) (T.ite (g.I == (10 : Int)) (T.ite (within j.I (0 : Int) (IntKind.wrap IntKind.i64 (f.I - (1 : Int)))) (T.leaf [D.b true]) (T.ite (!g.I == (10 : Int)) (T.leaf [D.b (j.I == (0 : Int))]) (T.leaf [D.b false]))) (T.ite (!g.I == (10 : Int)) (T.leaf [D.b (j.I == (0 : Int))]) (T.leaf [D.b false])))))) (T.ite (g.I == (5 : Int)) (T.ite (g.I == (8 : Int)) (T.ite (!within i.I (0 : Int) (IntKind.wrap IntKind.i64 (a.I - (1 : Int)))) (T.leaf [D.b false]) (T.ite (within j.I (0 : Int) (IntKind.wrap IntKind.i64 (f.I - (1 : Int)))) (T.leaf [D.b true]) (T.leaf [D.b false]))) (T.ite (g.I == (9 : Int)) (T.ite (!within i.I (0 : Int) (IntKind.wrap IntKind.i64 (a.I - (1 : Int)))) (T.leaf [D.b false]) (T.ite (within j.I (0 : Int) (IntKind.wrap IntKind.i64 (f.I - (1 : Int)))) (T.leaf [D.b true]) (T.leaf [D.b false]))) (T.ite (!within i.I (0 : Int) (IntKind.wrap IntKind.i64 (a.I - (1 : Int)))) (T.leaf [D.b false]) (T.ite (g.I == (10 : Int)) (T.ite (within j.I (0 : Int) (IntKind.wrap IntKind.i64 (f.I - (1 : Int)))) (T.leaf [D.b true]) (T.ite (!g.I == (10 : Int)) (T.leaf [D.b (j.I == (0 : Int))]) (T.leaf [D.b false]))) (T.ite (!g.I == (10 : Int)) (T.leaf [D.b (j.I == (0 : Int))]) (T.leaf [D.b false])))))) (T.ite (g.I == (8 : Int)) (T.ite (g.I == (8 : Int)) (T.ite (!within i.I (0 : Int) (IntKind.wrap IntKind.i64 (a.I - (1 : Int)))) (T.leaf [D.b false]) (T.ite (!g.I == (8 : Int)) (T.ite (i.I != (0 : Int)) (T.leaf [D.b false]) (T.ite (within j.I (0 : Int) (IntKind.wrap IntKind.i64 (f.I - (1 : Int)))) (T.leaf [D.b true]) (T.leaf [D.b false]))) (T.ite (within j.I (0 : Int) (IntKind.wrap IntKind.i64 (f.I - (1 : Int)))) (T.leaf [D.b true]) (T.leaf [D.b false])))) (T.ite (!g.I == (8 : Int)) (T.ite (i.I != (0 : Int)) (T.leaf [D.b false]) (T.ite (within j.I (0 : Int) (IntKind.wrap IntKind.i64 (f.I - (1 : Int)))) (T.leaf [D.b true]) (T.leaf [D.b false]))) (T.ite (within j.I (0 : Int) (IntKind.wrap IntKind.i64 (f.I - (1 : Int)))) (T.leaf [D.b true]) (T.leaf [D.b false])))) (T.ite (g.I == (9 : Int)) (T.ite (g.I == (8 : Int)) (T.ite (!within i.I (0 : Int) (IntKind.wrap IntKind.i64 (a.I - (1 : Int)))) (T.leaf [D.b false]) (T.ite (!g.I == (8 : Int)) (T.ite (i.I != (0 : Int)) (T.leaf [D.b false]) (T.ite (within j.I (0 : Int) (IntKind.wrap IntKind.i64 (f.I - (1 : Int)))) (T.leaf [D.b true]) (T.leaf [D.b false]))) (T.ite (within j.I (0 : Int) (IntKind.wrap IntKind.i64 (f.I - (1 : Int)))) (T.leaf [D.b true]) (T.leaf [D.b false])))) (T.ite (!g.I == (8 : Int)) (T.ite (i.I != (0 : Int)) (T.leaf [D.b false]) (T.ite (within j.I (0 : Int) (IntKind.wrap IntKind.i64 (f.I - (1 : Int)))) (T.leaf [D.b true]) (T.leaf [D.b false]))) (T.ite (within j.I (0 : Int) (IntKind.wrap IntKind.i64 (f.I - (1 : Int)))) (T.leaf [D.b true]) (T.leaf [D.b false])))) (T.ite (g.I == (8 : Int)) (T.ite (!within i.I (0 : Int) (IntKind.wrap IntKind.i64 (a.I - (1 : Int)))) (T.leaf [D.b false]) (T.ite (!g.I == (8 : Int)) (T.ite (i.I != (0 : Int)) (T.leaf [D.b false]) (T.ite (g.I == (10 : Int)) (T.ite (within j.I (0 : Int) (IntKind.wrap IntKind.i64 (f.I - (1 : Int)))) (T.leaf [D.b true]) (T.ite (!g.I == (10 : Int)) (T.leaf [D.b (j.I == (0 : Int))]) (T.leaf [D.b false]))) (T.ite (!g.I == (10 : Int)) (T.leaf [D.b (j.I == (0 : Int))]) (T.leaf [D.b false])))) (T.ite (g.I == (10 : Int)) (T.ite (within j.I (0 : Int) (IntKind.wrap IntKind.i64 (f.I - (1 : Int)))) (T.leaf [D.b true]) (T.ite (!g.I == (10 : Int)) (T.leaf [D.b (j.I == (0 : Int))]) (T.leaf [D.b false]))) (T.ite (!g.I == (10 : Int)) (T.leaf [D.b (j.I == (0 : Int))]) (T.leaf [D.b false]))))) (T.ite (!g.I == (8 : Int)) (T.ite (i.I != (0 : Int)) (T.leaf [D.b false]) (T.ite (g.I == (10 : Int)) (T.ite (within j.I (0 : Int) (IntKind.wrap IntKind.i64 (f.I - (1 : Int)))) (T.leaf [D.b true]) (T.ite (!g.I == (10 : Int)) (T.leaf [D.b (j.I == (0 : Int))]) (T.leaf [D.b false]))) (T.ite (!g.I == (10 : Int)) (T.leaf [D.b (j.I == (0 : Int))]) (T.leaf [D.b false])))) (T.ite (g.I == (10 : Int)) (T.ite (within j.I (0 : Int) (IntKind.wrap IntKind.i64 (f.I - (1 : Int)))) (T.leaf [D.b true]) (T.ite (!g.I == (10 : Int)) (T.leaf [D.b (j.I == (0 : Int))]) (T.leaf [D.b false]))) (T.ite (!g.I == (10 : Int)) (T.leaf [D.b (j.I == (0 : Int))]) (T.leaf [D.b false]))))))))))))) := by kernel_rfl
theorem t41 (a b : D) : (fnT C tab41 41 s41 [a, b]).run =
  T.run (T.ite ((a.L.length : Int) != (b.L.length : Int)) (T.leaf [D.b false]) (T.need (yes (a.L.length < big ∧ a.L.length = b.L.length ∧ (0 : Int) ≤ (0 : Int) ∧ (0 : Int) ≤ (a.L.length : Int))) (T.ite (allFrom (eqB a.L b.L) (Int.toNat (0 : Int)) (a.L.length - Int.toNat (0 : Int))) (T.leaf [D.b true]) (T.leaf [D.b false])))) := by kernel_rfl
theorem t41_4 (a b c : D) : (roundT C tab41 41 (loopOf C.P 41 4) l41_4 [a, b, c]).run =
  T.run (T.ite (decide (c.I < (a.L.length : Int))) (T.need (decide ((0 : Int) ≤ c.I ∧ c.I < (a.L.length : Int))) (T.need (decide ((0 : Int) ≤ c.I ∧ c.I < (b.L.length : Int))) (T.ite (D.I (List.getD (List.getD a.L c.I.toNat []) 0 default) != D.I (List.getD (List.getD b.L c.I.toNat []) 0 default)) (T.leaf (Rd.out Ex.ret [D.b false])) (T.leaf (Rd.again [D.l a.L, D.l b.L, D.i (IntKind.wrap IntKind.i64 (c.I + (1 : Int)))]))))) (T.leaf (Rd.out (Ex.exit 0) []))) := by kernel_rfl
theorem t82 (a b c d e f g h i j k l : D) : (fnT C tab82 82 s82 [a, b, c, d, e, f, g, h, i, j, k, l]).run =
  T.run (T.need (yes (g.L.length < big ∧ (0 : Int) ≤ (0 : Int) ∧ (0 : Int) ≤ (g.L.length : Int))) (T.leaf [D.b (sayF i.I j.I k.I g.L (Int.toNat (0 : Int)) (g.L.length - Int.toNat (0 : Int)) ((-1 : Int), l.B)).snd])) := by kernel_rfl
theorem t82_3 (a b c d e f g h i j k l m n : D) : (roundT C tab82 82 (loopOf C.P 82 3) l82_3 [a, b, c, d, e, f, g, h, i, j, k, l, m, n]).run =
  T.run (T.ite (decide (n.I < (g.L.length : Int))) (T.need (decide ((0 : Int) ≤ n.I ∧ n.I < (g.L.length : Int))) (T.ite (D.I (List.getD (List.getD g.L n.I.toNat []) 0 default) != i.I) (T.ite (D.I (List.getD (List.getD g.L n.I.toNat []) 0 default) != j.I) (T.leaf (Rd.again [D.i a.I, D.i b.I, D.i c.I, D.i d.I, D.i e.I, D.i f.I, D.l g.L, D.l h.L, D.i i.I, D.i j.I, D.i k.I, D.i l.I, D.b m.B, D.i (IntKind.wrap IntKind.i64 (n.I + (1 : Int)))])) (T.ite (D.I (List.getD (List.getD g.L n.I.toNat []) (0 + 1 + 1) default) != k.I) (T.leaf (Rd.again [D.i a.I, D.i b.I, D.i c.I, D.i d.I, D.i e.I, D.i f.I, D.l g.L, D.l h.L, D.i i.I, D.i j.I, D.i k.I, D.i l.I, D.b m.B, D.i (IntKind.wrap IntKind.i64 (n.I + (1 : Int)))])) (T.ite (decide (D.I (List.getD (List.getD g.L n.I.toNat []) (0 + 1) default) < l.I)) (T.leaf (Rd.again [D.i a.I, D.i b.I, D.i c.I, D.i d.I, D.i e.I, D.i f.I, D.l g.L, D.l h.L, D.i i.I, D.i j.I, D.i k.I, D.i l.I, D.b m.B, D.i (IntKind.wrap IntKind.i64 (n.I + (1 : Int)))])) (T.ite (decide (D.I (List.getD (List.getD g.L n.I.toNat []) (0 + 1) default) > l.I)) (T.leaf (Rd.again [D.i a.I, D.i b.I, D.i c.I, D.i d.I, D.i e.I, D.i f.I, D.l g.L, D.l h.L, D.i i.I, D.i j.I, D.i k.I, D.i (D.I (List.getD (List.getD g.L n.I.toNat []) (0 + 1) default)), D.b (D.I (List.getD (List.getD g.L n.I.toNat []) 0 default) == j.I), D.i (IntKind.wrap IntKind.i64 (n.I + (1 : Int)))])) (T.ite m.B (T.leaf (Rd.again [D.i a.I, D.i b.I, D.i c.I, D.i d.I, D.i e.I, D.i f.I, D.l g.L, D.l h.L, D.i i.I, D.i j.I, D.i k.I, D.i l.I, D.b true, D.i (IntKind.wrap IntKind.i64 (n.I + (1 : Int)))])) (T.leaf (Rd.again [D.i a.I, D.i b.I, D.i c.I, D.i d.I, D.i e.I, D.i f.I, D.l g.L, D.l h.L, D.i i.I, D.i j.I, D.i k.I, D.i l.I, D.b (D.I (List.getD (List.getD g.L n.I.toNat []) 0 default) == j.I), D.i (IntKind.wrap IntKind.i64 (n.I + (1 : Int)))]))))))) (T.ite (D.I (List.getD (List.getD g.L n.I.toNat []) (0 + 1 + 1) default) != k.I) (T.leaf (Rd.again [D.i a.I, D.i b.I, D.i c.I, D.i d.I, D.i e.I, D.i f.I, D.l g.L, D.l h.L, D.i i.I, D.i j.I, D.i k.I, D.i l.I, D.b m.B, D.i (IntKind.wrap IntKind.i64 (n.I + (1 : Int)))])) (T.ite (decide (D.I (List.getD (List.getD g.L n.I.toNat []) (0 + 1) default) < l.I)) (T.leaf (Rd.again [D.i a.I, D.i b.I, D.i c.I, D.i d.I, D.i e.I, D.i f.I, D.l g.L, D.l h.L, D.i i.I, D.i j.I, D.i k.I, D.i l.I, D.b m.B, D.i (IntKind.wrap IntKind.i64 (n.I + (1 : Int)))])) (T.ite (decide (D.I (List.getD (List.getD g.L n.I.toNat []) (0 + 1) default) > l.I)) (T.leaf (Rd.again [D.i a.I, D.i b.I, D.i c.I, D.i d.I, D.i e.I, D.i f.I, D.l g.L, D.l h.L, D.i i.I, D.i j.I, D.i k.I, D.i (D.I (List.getD (List.getD g.L n.I.toNat []) (0 + 1) default)), D.b (D.I (List.getD (List.getD g.L n.I.toNat []) 0 default) == j.I), D.i (IntKind.wrap IntKind.i64 (n.I + (1 : Int)))])) (T.ite m.B (T.leaf (Rd.again [D.i a.I, D.i b.I, D.i c.I, D.i d.I, D.i e.I, D.i f.I, D.l g.L, D.l h.L, D.i i.I, D.i j.I, D.i k.I, D.i l.I, D.b true, D.i (IntKind.wrap IntKind.i64 (n.I + (1 : Int)))])) (T.leaf (Rd.again [D.i a.I, D.i b.I, D.i c.I, D.i d.I, D.i e.I, D.i f.I, D.l g.L, D.l h.L, D.i i.I, D.i j.I, D.i k.I, D.i l.I, D.b (D.I (List.getD (List.getD g.L n.I.toNat []) 0 default) == j.I), D.i (IntKind.wrap IntKind.i64 (n.I + (1 : Int)))])))))))) (T.leaf (Rd.out (Ex.exit 0) [D.b m.B]))) := by kernel_rfl
theorem t83 (a b c d e f g h i : D) : (fnT C tab83 83 s83 [a, b, c, d, e, f, g, h, i]).run =
  T.run (T.need (yes (g.L.length < big ∧ (0 : Int) ≤ (0 : Int) ∧ (0 : Int) ≤ (g.L.length : Int))) (T.leaf [D.i (lstF i.I g.L (Int.toNat (0 : Int)) (g.L.length - Int.toNat (0 : Int)) (-1 : Int))])) := by kernel_rfl
theorem t83_3 (a b c d e f g h i j k : D) : (roundT C tab83 83 (loopOf C.P 83 3) l83_3 [a, b, c, d, e, f, g, h, i, j, k]).run =
  T.run (T.ite (decide (k.I < (g.L.length : Int))) (T.need (decide ((0 : Int) ≤ k.I ∧ k.I < (g.L.length : Int))) (T.ite (D.I (List.getD (List.getD g.L k.I.toNat []) (0 + 1 + 1) default) == i.I) (T.ite (D.I (List.getD (List.getD g.L k.I.toNat []) 0 default) == (3 : Int)) (T.leaf (Rd.again [D.i a.I, D.i b.I, D.i c.I, D.i d.I, D.i e.I, D.i f.I, D.l g.L, D.l h.L, D.i i.I, D.i (if D.I (List.getD (List.getD g.L k.I.toNat []) (0 + 1) default) > j.I then D.I (List.getD (List.getD g.L k.I.toNat []) (0 + 1) default) else j.I), D.i (IntKind.wrap IntKind.i64 (k.I + (1 : Int)))])) (T.ite (D.I (List.getD (List.getD g.L k.I.toNat []) 0 default) == (4 : Int)) (T.leaf (Rd.again [D.i a.I, D.i b.I, D.i c.I, D.i d.I, D.i e.I, D.i f.I, D.l g.L, D.l h.L, D.i i.I, D.i (if D.I (List.getD (List.getD g.L k.I.toNat []) (0 + 1) default) > j.I then D.I (List.getD (List.getD g.L k.I.toNat []) (0 + 1) default) else j.I), D.i (IntKind.wrap IntKind.i64 (k.I + (1 : Int)))])) (T.ite (D.I (List.getD (List.getD g.L k.I.toNat []) 0 default) == (5 : Int)) (T.leaf (Rd.again [D.i a.I, D.i b.I, D.i c.I, D.i d.I, D.i e.I, D.i f.I, D.l g.L, D.l h.L, D.i i.I, D.i (if D.I (List.getD (List.getD g.L k.I.toNat []) (0 + 1) default) > j.I then D.I (List.getD (List.getD g.L k.I.toNat []) (0 + 1) default) else j.I), D.i (IntKind.wrap IntKind.i64 (k.I + (1 : Int)))])) (T.ite (D.I (List.getD (List.getD g.L k.I.toNat []) 0 default) == (8 : Int)) (T.leaf (Rd.again [D.i a.I, D.i b.I, D.i c.I, D.i d.I, D.i e.I, D.i f.I, D.l g.L, D.l h.L, D.i i.I, D.i (if D.I (List.getD (List.getD g.L k.I.toNat []) (0 + 1) default) > j.I then D.I (List.getD (List.getD g.L k.I.toNat []) (0 + 1) default) else j.I), D.i (IntKind.wrap IntKind.i64 (k.I + (1 : Int)))])) (T.leaf (Rd.again [D.i a.I, D.i b.I, D.i c.I, D.i d.I, D.i e.I, D.i f.I, D.l g.L, D.l h.L, D.i i.I, D.i j.I, D.i (IntKind.wrap IntKind.i64 (k.I + (1 : Int)))])))))) (T.leaf (Rd.again [D.i a.I, D.i b.I, D.i c.I, D.i d.I, D.i e.I, D.i f.I, D.l g.L, D.l h.L, D.i i.I, D.i j.I, D.i (IntKind.wrap IntKind.i64 (k.I + (1 : Int)))])))) (T.leaf (Rd.out (Ex.exit 0) [D.i j.I]))) := by kernel_rfl
theorem t1059 (a b c d e f g h i j k l : D) : (fnTW C tab1059 59 s1059 [a, b, c, d, e, f, g, h, i, j, k, l]).run =
  T.run (T.need (decide ((0 : Int) ≤ d.I ∧ d.I < (k.I.toNat : Int))) (T.need (decide (d.I.toNat < l.L.length)) (T.ite (!D.B (List.getD (List.getD l.L d.I.toNat []) 0 default)) (T.leaf [D.i e.I, D.i f.I, D.i g.I, D.i h.I, D.i i.I, D.i j.I, D.i 1, D.i (k.I.toNat : Int), D.l l.L, D.l [[D.i a.I, D.i b.I, D.i c.I, D.i d.I]]]) (T.ite (a.I == (8 : Int)) (T.need (decide (d.I.toNat < l.L.length)) (T.need (decide (d.I.toNat < l.L.length)) (T.leaf [D.i e.I, D.i f.I, D.i g.I, D.i h.I, D.i i.I, D.i j.I, D.i 1, D.i (k.I.toNat : Int), D.l (List.set l.L d.I.toNat (updC (List.getD l.L d.I.toNat []) [D.i (if c.I > D.I (List.getD (List.getD l.L d.I.toNat []) (0 + 1 + 1) default) then c.I else D.I (List.getD (List.getD l.L d.I.toNat []) (0 + 1 + 1) default))] (0 + 2) 0 (List.length [K.bool, K.int IntKind.i64, K.int IntKind.i64, K.bool, K.bool]))), D.l [[D.i a.I, D.i b.I, D.i c.I, D.i d.I]]]))) (T.ite (a.I == (9 : Int)) (T.need (decide (d.I.toNat < l.L.length)) (T.leaf [D.i e.I, D.i f.I, D.i g.I, D.i h.I, D.i i.I, D.i j.I, D.i 1, D.i (k.I.toNat : Int), D.l (List.set l.L d.I.toNat (updC (List.getD l.L d.I.toNat []) [D.b true] (0 + 3) 0 (List.length [K.bool, K.int IntKind.i64, K.int IntKind.i64, K.bool, K.bool]))), D.l [[D.i a.I, D.i b.I, D.i c.I, D.i d.I]]])) (T.ite (a.I == (10 : Int)) (T.need (decide (d.I.toNat < l.L.length)) (T.leaf [D.i e.I, D.i f.I, D.i g.I, D.i h.I, D.i i.I, D.i j.I, D.i 1, D.i (k.I.toNat : Int), D.l (List.set l.L d.I.toNat (updC (List.getD l.L d.I.toNat []) [D.b true] (0 + 4) 0 (List.length [K.bool, K.int IntKind.i64, K.int IntKind.i64, K.bool, K.bool]))), D.l [[D.i a.I, D.i b.I, D.i c.I, D.i d.I]]])) (T.leaf [D.i e.I, D.i f.I, D.i g.I, D.i h.I, D.i i.I, D.i j.I, D.i 1, D.i (k.I.toNat : Int), D.l l.L, D.l [[D.i a.I, D.i b.I, D.i c.I, D.i d.I]]]))))))) := by kernel_rfl
theorem t2059 (a b c d e f g h i j k l m n : D) : (fnTW C tab2059 59 s2059 [a, b, c, d, e, f, g, h, i, j, k, l, m, n]).run =
  T.run (T.need (decide (k.I.toNat ≤ m.L.length ∧ k.I.toNat + List.length (List.take (List.length [[D.i a.I, D.i b.I, D.i c.I, D.i d.I]]) [[D.i a.I, D.i b.I, D.i c.I, D.i d.I]]) ≤ 2 ^ 62 ∧ (k.I.toNat + List.length (List.take (List.length [[D.i a.I, D.i b.I, D.i c.I, D.i d.I]]) [[D.i a.I, D.i b.I, D.i c.I, D.i d.I]])) * Try.prog.types[81].bytes ≤ 2 ^ 47)) (T.need (decide ((0 : Int) ≤ d.I ∧ d.I < (l.I.toNat : Int))) (T.need (decide (d.I.toNat < n.L.length)) (T.ite (!D.B (List.getD (List.getD n.L d.I.toNat []) 0 default)) (T.leaf [D.i e.I, D.i f.I, D.i g.I, D.i h.I, D.i i.I, D.i j.I, D.i (↑(k.I.toNat + List.length (List.take (List.length [[D.i a.I, D.i b.I, D.i c.I, D.i d.I]]) [[D.i a.I, D.i b.I, D.i c.I, D.i d.I]])) : Int), D.i (l.I.toNat : Int), D.l n.L, D.l (List.take k.I.toNat m.L ++ List.take (List.length [[D.i a.I, D.i b.I, D.i c.I, D.i d.I]]) [[D.i a.I, D.i b.I, D.i c.I, D.i d.I]])]) (T.ite (a.I == (8 : Int)) (T.need (decide (d.I.toNat < n.L.length)) (T.need (decide (d.I.toNat < n.L.length)) (T.leaf [D.i e.I, D.i f.I, D.i g.I, D.i h.I, D.i i.I, D.i j.I, D.i (↑(k.I.toNat + List.length (List.take (List.length [[D.i a.I, D.i b.I, D.i c.I, D.i d.I]]) [[D.i a.I, D.i b.I, D.i c.I, D.i d.I]])) : Int), D.i (l.I.toNat : Int), D.l (List.set n.L d.I.toNat (updC (List.getD n.L d.I.toNat []) [D.i (if c.I > D.I (List.getD (List.getD n.L d.I.toNat []) (0 + 1 + 1) default) then c.I else D.I (List.getD (List.getD n.L d.I.toNat []) (0 + 1 + 1) default))] (0 + 2) 0 (List.length [K.bool, K.int IntKind.i64, K.int IntKind.i64, K.bool, K.bool]))), D.l (List.take k.I.toNat m.L ++ List.take (List.length [[D.i a.I, D.i b.I, D.i c.I, D.i d.I]]) [[D.i a.I, D.i b.I, D.i c.I, D.i d.I]])]))) (T.ite (a.I == (9 : Int)) (T.need (decide (d.I.toNat < n.L.length)) (T.leaf [D.i e.I, D.i f.I, D.i g.I, D.i h.I, D.i i.I, D.i j.I, D.i (↑(k.I.toNat + List.length (List.take (List.length [[D.i a.I, D.i b.I, D.i c.I, D.i d.I]]) [[D.i a.I, D.i b.I, D.i c.I, D.i d.I]])) : Int), D.i (l.I.toNat : Int), D.l (List.set n.L d.I.toNat (updC (List.getD n.L d.I.toNat []) [D.b true] (0 + 3) 0 (List.length [K.bool, K.int IntKind.i64, K.int IntKind.i64, K.bool, K.bool]))), D.l (List.take k.I.toNat m.L ++ List.take (List.length [[D.i a.I, D.i b.I, D.i c.I, D.i d.I]]) [[D.i a.I, D.i b.I, D.i c.I, D.i d.I]])])) (T.ite (a.I == (10 : Int)) (T.need (decide (d.I.toNat < n.L.length)) (T.leaf [D.i e.I, D.i f.I, D.i g.I, D.i h.I, D.i i.I, D.i j.I, D.i (↑(k.I.toNat + List.length (List.take (List.length [[D.i a.I, D.i b.I, D.i c.I, D.i d.I]]) [[D.i a.I, D.i b.I, D.i c.I, D.i d.I]])) : Int), D.i (l.I.toNat : Int), D.l (List.set n.L d.I.toNat (updC (List.getD n.L d.I.toNat []) [D.b true] (0 + 4) 0 (List.length [K.bool, K.int IntKind.i64, K.int IntKind.i64, K.bool, K.bool]))), D.l (List.take k.I.toNat m.L ++ List.take (List.length [[D.i a.I, D.i b.I, D.i c.I, D.i d.I]]) [[D.i a.I, D.i b.I, D.i c.I, D.i d.I]])])) (T.leaf [D.i e.I, D.i f.I, D.i g.I, D.i h.I, D.i i.I, D.i j.I, D.i (↑(k.I.toNat + List.length (List.take (List.length [[D.i a.I, D.i b.I, D.i c.I, D.i d.I]]) [[D.i a.I, D.i b.I, D.i c.I, D.i d.I]])) : Int), D.i (l.I.toNat : Int), D.l n.L, D.l (List.take k.I.toNat m.L ++ List.take (List.length [[D.i a.I, D.i b.I, D.i c.I, D.i d.I]]) [[D.i a.I, D.i b.I, D.i c.I, D.i d.I]])])))))))) := by kernel_rfl
end Go.Proofs.Ytgmefblkmidglaa
namespace Go.Proofs.Ytgmefblkmidglaa
open Go.Lite
set_option linter.unusedVariables false
set_option maxRecDepth 100000
theorem t1064 (a b c d e f g h i j k l m n o p q r s t u : D) : (fnTW C tab1064 64 s1064 [a, b, c, d, e, f, g, h, i, j, k, l, m, n, o, p, q, r, s, t, u]).run =
  T.run (T.ite (!l.B) (T.leaf [D.i d.I, D.i e.I, D.i f.I, D.i g.I, D.i h.I, D.i i.I, D.b a.B, D.i (if b.I > k.I then b.I else k.I), D.b true, D.b m.B, D.i n.I, D.b o.B, D.i (p.I.toNat : Int), D.i (q.I.toNat : Int), D.i (r.I.toNat : Int), D.l s.L, D.l t.L, D.l u.L]) (T.ite (decide (b.I > k.I)) (T.leaf [D.i d.I, D.i e.I, D.i f.I, D.i g.I, D.i h.I, D.i i.I, D.b a.B, D.i (if b.I > k.I then b.I else k.I), D.b true, D.b m.B, D.i n.I, D.b o.B, D.i (p.I.toNat : Int), D.i (q.I.toNat : Int), D.i (r.I.toNat : Int), D.l s.L, D.l t.L, D.l u.L]) (T.ite (b.I == k.I) (T.ite (a.B == c.B) (T.leaf [D.i d.I, D.i e.I, D.i f.I, D.i g.I, D.i h.I, D.i i.I, D.b a.B, D.i (if b.I > k.I then b.I else k.I), D.b true, D.b m.B, D.i n.I, D.b o.B, D.i (p.I.toNat : Int), D.i (q.I.toNat : Int), D.i (r.I.toNat : Int), D.l s.L, D.l t.L, D.l u.L]) (T.leaf [D.i d.I, D.i e.I, D.i f.I, D.i g.I, D.i h.I, D.i i.I, D.b j.B, D.i (if b.I > k.I then b.I else k.I), D.b true, D.b m.B, D.i n.I, D.b o.B, D.i (p.I.toNat : Int), D.i (q.I.toNat : Int), D.i (r.I.toNat : Int), D.l s.L, D.l t.L, D.l u.L])) (T.leaf [D.i d.I, D.i e.I, D.i f.I, D.i g.I, D.i h.I, D.i i.I, D.b j.B, D.i (if b.I > k.I then b.I else k.I), D.b true, D.b m.B, D.i n.I, D.b o.B, D.i (p.I.toNat : Int), D.i (q.I.toNat : Int), D.i (r.I.toNat : Int), D.l s.L, D.l t.L, D.l u.L])))) := by kernel_rfl
theorem t2064 (a b c d e f g h i j k l m n o p q r s t u : D) : (fnTW C tab2064 64 s2064 [a, b, c, d, e, f, g, h, i, j, k, l, m, n, o, p, q, r, s, t, u]).run =
  T.run (T.ite (!o.B) (T.leaf [D.i d.I, D.i e.I, D.i f.I, D.i g.I, D.i h.I, D.i i.I, D.b j.B, D.i k.I, D.b l.B, D.b a.B, D.i (if b.I > n.I then b.I else n.I), D.b true, D.i (p.I.toNat : Int), D.i (q.I.toNat : Int), D.i (r.I.toNat : Int), D.l s.L, D.l t.L, D.l u.L]) (T.ite (decide (b.I > n.I)) (T.leaf [D.i d.I, D.i e.I, D.i f.I, D.i g.I, D.i h.I, D.i i.I, D.b j.B, D.i k.I, D.b l.B, D.b a.B, D.i (if b.I > n.I then b.I else n.I), D.b true, D.i (p.I.toNat : Int), D.i (q.I.toNat : Int), D.i (r.I.toNat : Int), D.l s.L, D.l t.L, D.l u.L]) (T.ite (b.I == n.I) (T.ite (a.B == c.B) (T.leaf [D.i d.I, D.i e.I, D.i f.I, D.i g.I, D.i h.I, D.i i.I, D.b j.B, D.i k.I, D.b l.B, D.b a.B, D.i (if b.I > n.I then b.I else n.I), D.b true, D.i (p.I.toNat : Int), D.i (q.I.toNat : Int), D.i (r.I.toNat : Int), D.l s.L, D.l t.L, D.l u.L]) (T.leaf [D.i d.I, D.i e.I, D.i f.I, D.i g.I, D.i h.I, D.i i.I, D.b j.B, D.i k.I, D.b l.B, D.b m.B, D.i (if b.I > n.I then b.I else n.I), D.b true, D.i (p.I.toNat : Int), D.i (q.I.toNat : Int), D.i (r.I.toNat : Int), D.l s.L, D.l t.L, D.l u.L])) (T.leaf [D.i d.I, D.i e.I, D.i f.I, D.i g.I, D.i h.I, D.i i.I, D.b j.B, D.i k.I, D.b l.B, D.b m.B, D.i (if b.I > n.I then b.I else n.I), D.b true, D.i (p.I.toNat : Int), D.i (q.I.toNat : Int), D.i (r.I.toNat : Int), D.l s.L, D.l t.L, D.l u.L])))) := by kernel_rfl
theorem t3064 (a b c d e : D) : (fnTW C tab3064 64 s3064 [a, b, c, d, e]).run =
  T.run (T.need (decide (a.I.toNat < e.L.length)) (T.ite (!D.B (List.getD (List.getD e.L a.I.toNat []) (0 + 1 + 1) default)) (T.need (decide (a.I.toNat < e.L.length)) (T.need (decide (a.I.toNat < List.length (List.set e.L a.I.toNat (updC (List.getD e.L a.I.toNat []) [D.b b.B] (0 + 0) 0 (List.length [K.bool, K.int IntKind.i64, K.bool]))))) (T.need (decide (a.I.toNat < List.length (List.set e.L a.I.toNat (updC (List.getD e.L a.I.toNat []) [D.b b.B] (0 + 0) 0 (List.length [K.bool, K.int IntKind.i64, K.bool]))))) (T.need (decide (a.I.toNat < List.length (List.set (List.set e.L a.I.toNat (updC (List.getD e.L a.I.toNat []) [D.b b.B] (0 + 0) 0 (List.length [K.bool, K.int IntKind.i64, K.bool]))) a.I.toNat (updC (List.getD (List.set e.L a.I.toNat (updC (List.getD e.L a.I.toNat []) [D.b b.B] (0 + 0) 0 (List.length [K.bool, K.int IntKind.i64, K.bool]))) a.I.toNat []) [D.i (if c.I > D.I (List.getD (List.getD (List.set e.L a.I.toNat (updC (List.getD e.L a.I.toNat []) [D.b b.B] (0 + 0) 0 (List.length [K.bool, K.int IntKind.i64, K.bool]))) a.I.toNat []) (0 + 1) default) then c.I else D.I (List.getD (List.getD (List.set e.L a.I.toNat (updC (List.getD e.L a.I.toNat []) [D.b b.B] (0 + 0) 0 (List.length [K.bool, K.int IntKind.i64, K.bool]))) a.I.toNat []) (0 + 1) default))] (0 + 1) 0 (List.length [K.bool, K.int IntKind.i64, K.bool]))))) (T.leaf [D.l (List.set (List.set (List.set e.L a.I.toNat (updC (List.getD e.L a.I.toNat []) [D.b b.B] (0 + 0) 0 (List.length [K.bool, K.int IntKind.i64, K.bool]))) a.I.toNat (updC (List.getD (List.set e.L a.I.toNat (updC (List.getD e.L a.I.toNat []) [D.b b.B] (0 + 0) 0 (List.length [K.bool, K.int IntKind.i64, K.bool]))) a.I.toNat []) [D.i (if c.I > D.I (List.getD (List.getD (List.set e.L a.I.toNat (updC (List.getD e.L a.I.toNat []) [D.b b.B] (0 + 0) 0 (List.length [K.bool, K.int IntKind.i64, K.bool]))) a.I.toNat []) (0 + 1) default) then c.I else D.I (List.getD (List.getD (List.set e.L a.I.toNat (updC (List.getD e.L a.I.toNat []) [D.b b.B] (0 + 0) 0 (List.length [K.bool, K.int IntKind.i64, K.bool]))) a.I.toNat []) (0 + 1) default))] (0 + 1) 0 (List.length [K.bool, K.int IntKind.i64, K.bool]))) a.I.toNat (updC (List.getD (List.set (List.set e.L a.I.toNat (updC (List.getD e.L a.I.toNat []) [D.b b.B] (0 + 0) 0 (List.length [K.bool, K.int IntKind.i64, K.bool]))) a.I.toNat (updC (List.getD (List.set e.L a.I.toNat (updC (List.getD e.L a.I.toNat []) [D.b b.B] (0 + 0) 0 (List.length [K.bool, K.int IntKind.i64, K.bool]))) a.I.toNat []) [D.i (if c.I > D.I (List.getD (List.getD (List.set e.L a.I.toNat (updC (List.getD e.L a.I.toNat []) [D.b b.B] (0 + 0) 0 (List.length [K.bool, K.int IntKind.i64, K.bool]))) a.I.toNat []) (0 + 1) default) then c.I else D.I (List.getD (List.getD (List.set e.L a.I.toNat (updC (List.getD e.L a.I.toNat []) [D.b b.B] (0 + 0) 0 (List.length [K.bool, K.int IntKind.i64, K.bool]))) a.I.toNat []) (0 + 1) default))] (0 + 1) 0 (List.length [K.bool, K.int IntKind.i64, K.bool]))) a.I.toNat []) [D.b true] (0 + 2) 0 (List.length [K.bool, K.int IntKind.i64, K.bool])))]))))) (T.need (decide (a.I.toNat < e.L.length)) (T.ite (decide (c.I > D.I (List.getD (List.getD e.L a.I.toNat []) (0 + 1) default))) (T.need (decide (a.I.toNat < e.L.length)) (T.need (decide (a.I.toNat < List.length (List.set e.L a.I.toNat (updC (List.getD e.L a.I.toNat []) [D.b b.B] (0 + 0) 0 (List.length [K.bool, K.int IntKind.i64, K.bool]))))) (T.need (decide (a.I.toNat < List.length (List.set e.L a.I.toNat (updC (List.getD e.L a.I.toNat []) [D.b b.B] (0 + 0) 0 (List.length [K.bool, K.int IntKind.i64, K.bool]))))) (T.need (decide (a.I.toNat < List.length (List.set (List.set e.L a.I.toNat (updC (List.getD e.L a.I.toNat []) [D.b b.B] (0 + 0) 0 (List.length [K.bool, K.int IntKind.i64, K.bool]))) a.I.toNat (updC (List.getD (List.set e.L a.I.toNat (updC (List.getD e.L a.I.toNat []) [D.b b.B] (0 + 0) 0 (List.length [K.bool, K.int IntKind.i64, K.bool]))) a.I.toNat []) [D.i (if c.I > D.I (List.getD (List.getD (List.set e.L a.I.toNat (updC (List.getD e.L a.I.toNat []) [D.b b.B] (0 + 0) 0 (List.length [K.bool, K.int IntKind.i64, K.bool]))) a.I.toNat []) (0 + 1) default) then c.I else D.I (List.getD (List.getD (List.set e.L a.I.toNat (updC (List.getD e.L a.I.toNat []) [D.b b.B] (0 + 0) 0 (List.length [K.bool, K.int IntKind.i64, K.bool]))) a.I.toNat []) (0 + 1) default))] (0 + 1) 0 (List.length [K.bool, K.int IntKind.i64, K.bool]))))) (T.leaf [D.l (List.set (List.set (List.set e.L a.I.toNat (updC (List.getD e.L a.I.toNat []) [D.b b.B] (0 + 0) 0 (List.length [K.bool, K.int IntKind.i64, K.bool]))) a.I.toNat (updC (List.getD (List.set e.L a.I.toNat (updC (List.getD e.L a.I.toNat []) [D.b b.B] (0 + 0) 0 (List.length [K.bool, K.int IntKind.i64, K.bool]))) a.I.toNat []) [D.i (if c.I > D.I (List.getD (List.getD (List.set e.L a.I.toNat (updC (List.getD e.L a.I.toNat []) [D.b b.B] (0 + 0) 0 (List.length [K.bool, K.int IntKind.i64, K.bool]))) a.I.toNat []) (0 + 1) default) then c.I else D.I (List.getD (List.getD (List.set e.L a.I.toNat (updC (List.getD e.L a.I.toNat []) [D.b b.B] (0 + 0) 0 (List.length [K.bool, K.int IntKind.i64, K.bool]))) a.I.toNat []) (0 + 1) default))] (0 + 1) 0 (List.length [K.bool, K.int IntKind.i64, K.bool]))) a.I.toNat (updC (List.getD (List.set (List.set e.L a.I.toNat (updC (List.getD e.L a.I.toNat []) [D.b b.B] (0 + 0) 0 (List.length [K.bool, K.int IntKind.i64, K.bool]))) a.I.toNat (updC (List.getD (List.set e.L a.I.toNat (updC (List.getD e.L a.I.toNat []) [D.b b.B] (0 + 0) 0 (List.length [K.bool, K.int IntKind.i64, K.bool]))) a.I.toNat []) [D.i (if c.I > D.I (List.getD (List.getD (List.set e.L a.I.toNat (updC (List.getD e.L a.I.toNat []) [D.b b.B] (0 + 0) 0 (List.length [K.bool, K.int IntKind.i64, K.bool]))) a.I.toNat []) (0 + 1) default) then c.I else D.I (List.getD (List.getD (List.set e.L a.I.toNat (updC (List.getD e.L a.I.toNat []) [D.b b.B] (0 + 0) 0 (List.length [K.bool, K.int IntKind.i64, K.bool]))) a.I.toNat []) (0 + 1) default))] (0 + 1) 0 (List.length [K.bool, K.int IntKind.i64, K.bool]))) a.I.toNat []) [D.b true] (0 + 2) 0 (List.length [K.bool, K.int IntKind.i64, K.bool])))]))))) (T.need (decide (a.I.toNat < e.L.length)) (T.ite (c.I == D.I (List.getD (List.getD e.L a.I.toNat []) (0 + 1) default)) (T.ite (b.B == d.B) (T.need (decide (a.I.toNat < e.L.length)) (T.need (decide (a.I.toNat < List.length (List.set e.L a.I.toNat (updC (List.getD e.L a.I.toNat []) [D.b b.B] (0 + 0) 0 (List.length [K.bool, K.int IntKind.i64, K.bool]))))) (T.need (decide (a.I.toNat < List.length (List.set e.L a.I.toNat (updC (List.getD e.L a.I.toNat []) [D.b b.B] (0 + 0) 0 (List.length [K.bool, K.int IntKind.i64, K.bool]))))) (T.need (decide (a.I.toNat < List.length (List.set (List.set e.L a.I.toNat (updC (List.getD e.L a.I.toNat []) [D.b b.B] (0 + 0) 0 (List.length [K.bool, K.int IntKind.i64, K.bool]))) a.I.toNat (updC (List.getD (List.set e.L a.I.toNat (updC (List.getD e.L a.I.toNat []) [D.b b.B] (0 + 0) 0 (List.length [K.bool, K.int IntKind.i64, K.bool]))) a.I.toNat []) [D.i (if c.I > D.I (List.getD (List.getD (List.set e.L a.I.toNat (updC (List.getD e.L a.I.toNat []) [D.b b.B] (0 + 0) 0 (List.length [K.bool, K.int IntKind.i64, K.bool]))) a.I.toNat []) (0 + 1) default) then c.I else D.I (List.getD (List.getD (List.set e.L a.I.toNat (updC (List.getD e.L a.I.toNat []) [D.b b.B] (0 + 0) 0 (List.length [K.bool, K.int IntKind.i64, K.bool]))) a.I.toNat []) (0 + 1) default))] (0 + 1) 0 (List.length [K.bool, K.int IntKind.i64, K.bool]))))) (T.leaf [D.l (List.set (List.set (List.set e.L a.I.toNat (updC (List.getD e.L a.I.toNat []) [D.b b.B] (0 + 0) 0 (List.length [K.bool, K.int IntKind.i64, K.bool]))) a.I.toNat (updC (List.getD (List.set e.L a.I.toNat (updC (List.getD e.L a.I.toNat []) [D.b b.B] (0 + 0) 0 (List.length [K.bool, K.int IntKind.i64, K.bool]))) a.I.toNat []) [D.i (if c.I > D.I (List.getD (List.getD (List.set e.L a.I.toNat (updC (List.getD e.L a.I.toNat []) [D.b b.B] (0 + 0) 0 (List.length [K.bool, K.int IntKind.i64, K.bool]))) a.I.toNat []) (0 + 1) default) then c.I else D.I (List.getD (List.getD (List.set e.L a.I.toNat (updC (List.getD e.L a.I.toNat []) [D.b b.B] (0 + 0) 0 (List.length [K.bool, K.int IntKind.i64, K.bool]))) a.I.toNat []) (0 + 1) default))] (0 + 1) 0 (List.length [K.bool, K.int IntKind.i64, K.bool]))) a.I.toNat (updC (List.getD (List.set (List.set e.L a.I.toNat (updC (List.getD e.L a.I.toNat []) [D.b b.B] (0 + 0) 0 (List.length [K.bool, K.int IntKind.i64, K.bool]))) a.I.toNat (updC (List.getD (List.set e.L a.I.toNat (updC (List.getD e.L a.I.toNat []) [D.b b.B] (0 + 0) 0 (List.length [K.bool, K.int IntKind.i64, K.bool]))) a.I.toNat []) [D.i (if c.I > D.I (List.getD (List.getD (List.set e.L a.I.toNat (updC (List.getD e.L a.I.toNat []) [D.b b.B] (0 + 0) 0 (List.length [K.bool, K.int IntKind.i64, K.bool]))) a.I.toNat []) (0 + 1) default) then c.I else D.I (List.getD (List.getD (List.set e.L a.I.toNat (updC (List.getD e.L a.I.toNat []) [D.b b.B] (0 + 0) 0 (List.length [K.bool, K.int IntKind.i64, K.bool]))) a.I.toNat []) (0 + 1) default))] (0 + 1) 0 (List.length [K.bool, K.int IntKind.i64, K.bool]))) a.I.toNat []) [D.b true] (0 + 2) 0 (List.length [K.bool, K.int IntKind.i64, K.bool])))]))))) (T.need (decide (a.I.toNat < e.L.length)) (T.need (decide (a.I.toNat < e.L.length)) (T.need (decide (a.I.toNat < List.length (List.set e.L a.I.toNat (updC (List.getD e.L a.I.toNat []) [D.i (if c.I > D.I (List.getD (List.getD e.L a.I.toNat []) (0 + 1) default) then c.I else D.I (List.getD (List.getD e.L a.I.toNat []) (0 + 1) default))] (0 + 1) 0 (List.length [K.bool, K.int IntKind.i64, K.bool]))))) (T.leaf [D.l (List.set (List.set e.L a.I.toNat (updC (List.getD e.L a.I.toNat []) [D.i (if c.I > D.I (List.getD (List.getD e.L a.I.toNat []) (0 + 1) default) then c.I else D.I (List.getD (List.getD e.L a.I.toNat []) (0 + 1) default))] (0 + 1) 0 (List.length [K.bool, K.int IntKind.i64, K.bool]))) a.I.toNat (updC (List.getD (List.set e.L a.I.toNat (updC (List.getD e.L a.I.toNat []) [D.i (if c.I > D.I (List.getD (List.getD e.L a.I.toNat []) (0 + 1) default) then c.I else D.I (List.getD (List.getD e.L a.I.toNat []) (0 + 1) default))] (0 + 1) 0 (List.length [K.bool, K.int IntKind.i64, K.bool]))) a.I.toNat []) [D.b true] (0 + 2) 0 (List.length [K.bool, K.int IntKind.i64, K.bool])))]))))) (T.need (decide (a.I.toNat < e.L.length)) (T.need (decide (a.I.toNat < e.L.length)) (T.need (decide (a.I.toNat < List.length (List.set e.L a.I.toNat (updC (List.getD e.L a.I.toNat []) [D.i (if c.I > D.I (List.getD (List.getD e.L a.I.toNat []) (0 + 1) default) then c.I else D.I (List.getD (List.getD e.L a.I.toNat []) (0 + 1) default))] (0 + 1) 0 (List.length [K.bool, K.int IntKind.i64, K.bool]))))) (T.leaf [D.l (List.set (List.set e.L a.I.toNat (updC (List.getD e.L a.I.toNat []) [D.i (if c.I > D.I (List.getD (List.getD e.L a.I.toNat []) (0 + 1) default) then c.I else D.I (List.getD (List.getD e.L a.I.toNat []) (0 + 1) default))] (0 + 1) 0 (List.length [K.bool, K.int IntKind.i64, K.bool]))) a.I.toNat (updC (List.getD (List.set e.L a.I.toNat (updC (List.getD e.L a.I.toNat []) [D.i (if c.I > D.I (List.getD (List.getD e.L a.I.toNat []) (0 + 1) default) then c.I else D.I (List.getD (List.getD e.L a.I.toNat []) (0 + 1) default))] (0 + 1) 0 (List.length [K.bool, K.int IntKind.i64, K.bool]))) a.I.toNat []) [D.b true] (0 + 2) 0 (List.length [K.bool, K.int IntKind.i64, K.bool])))])))))))))) := by kernel_rfl
theorem t63 (a b c d e f g h i j k l m n o p q r s t u v : D) : (fnTW C tab63 63 s63 [a, b, c, d, e, f, g, h, i, j, k, l, m, n, o, p, q, r, s, t, u, v]).run =
  T.run (T.need (decide ((0 : Int) ≤ c.I ∧ c.I < (r.I.toNat : Int))) (T.need (yes ((0 : Int) ≤ (c.I.toNat : Int) ∧ (c.I.toNat : Int) < (u.L.length : Int))) (T.leaf [D.i a.I, D.i b.I, D.i c.I, D.i d.I, D.i e.I, D.i f.I, D.i g.I, D.i h.I, D.i i.I, D.i j.I, D.b k.B, D.i l.I, D.b m.B, D.b n.B, D.i o.I, D.b p.B, D.i (q.I.toNat : Int), D.i (r.I.toNat : Int), D.i (s.I.toNat : Int), D.l t.L, D.l (hearL u.L (Int.toNat (c.I.toNat : Int)) true true b.I), D.l v.L]))) := by kernel_rfl
theorem t39 (a b c d e f g h i j k l m n o p q r s t : D) : (fnTW C tab39 39 s39 [a, b, c, d, e, f, g, h, i, j, k, l, m, n, o, p, q, r, s, t]).run =
  T.run (T.need (yes (okG c.I d.I e.I f.I g.I h.I (o.I.toNat : Int) (p.I.toNat : Int) (q.I.toNat : Int) r.L s.L t.L ∧ tOK j.I ∧ tOK m.I)) (T.ite (validB h.I a.I b.I) (T.ite (List.isEmpty (rulesF (ruleB c.I d.I e.I f.I g.I i.B l.B r.L s.L t.L a.I b.I) 0 8 [])) (T.need (decide ((0 : Int) ≤ a.I ∧ a.I < (↑(Int.toNat (q.I.toNat : Int)) : Int))) (T.need (decide (a.I.toNat < t.L.length)) (T.need (decide ((0 : Int) ≤ a.I ∧ a.I < (↑(Int.toNat (q.I.toNat : Int)) : Int))) (T.need (decide (a.I.toNat < List.length (List.set t.L a.I.toNat (updC (List.getD t.L a.I.toNat []) [D.b true] (0 + 0) 0 (List.length [K.bool, K.int IntKind.i64, K.int IntKind.i64, K.bool, K.bool]))))) (T.leaf [D.i 0, D.i c.I, D.i d.I, D.i e.I, D.i f.I, D.i g.I, D.i h.I, D.b i.B, D.i j.I, D.b k.B, D.b l.B, D.i m.I, D.b n.B, D.i (↑(Int.toNat (o.I.toNat : Int)) : Int), D.i (↑(Int.toNat (p.I.toNat : Int)) : Int), D.i (↑(Int.toNat (q.I.toNat : Int)) : Int), D.l r.L, D.l s.L, D.l (List.set (List.set t.L a.I.toNat (updC (List.getD t.L a.I.toNat []) [D.b true] (0 + 0) 0 (List.length [K.bool, K.int IntKind.i64, K.int IntKind.i64, K.bool, K.bool]))) a.I.toNat (updC (List.getD (List.set t.L a.I.toNat (updC (List.getD t.L a.I.toNat []) [D.b true] (0 + 0) 0 (List.length [K.bool, K.int IntKind.i64, K.int IntKind.i64, K.bool, K.bool]))) a.I.toNat []) [D.i b.I] (0 + 1) 0 (List.length [K.bool, K.int IntKind.i64, K.int IntKind.i64, K.bool, K.bool])))]))))) (T.ite (decide ((↑(Int.toNat (↑(List.length (rulesF (ruleB c.I d.I e.I f.I g.I i.B l.B r.L s.L t.L a.I b.I) 0 8 [])) : Int)) : Int) > (0 : Int))) (T.leaf [D.i 7, D.i c.I, D.i d.I, D.i e.I, D.i f.I, D.i g.I, D.i h.I, D.b i.B, D.i j.I, D.b k.B, D.b l.B, D.i m.I, D.b n.B, D.i (↑(Int.toNat (o.I.toNat : Int)) : Int), D.i (↑(Int.toNat (p.I.toNat : Int)) : Int), D.i (↑(Int.toNat (q.I.toNat : Int)) : Int), D.l r.L, D.l s.L, D.l t.L]) (T.need (decide ((0 : Int) ≤ a.I ∧ a.I < (↑(Int.toNat (q.I.toNat : Int)) : Int))) (T.need (decide (a.I.toNat < t.L.length)) (T.need (decide ((0 : Int) ≤ a.I ∧ a.I < (↑(Int.toNat (q.I.toNat : Int)) : Int))) (T.need (decide (a.I.toNat < List.length (List.set t.L a.I.toNat (updC (List.getD t.L a.I.toNat []) [D.b true] (0 + 0) 0 (List.length [K.bool, K.int IntKind.i64, K.int IntKind.i64, K.bool, K.bool]))))) (T.leaf [D.i 0, D.i c.I, D.i d.I, D.i e.I, D.i f.I, D.i g.I, D.i h.I, D.b i.B, D.i j.I, D.b k.B, D.b l.B, D.i m.I, D.b n.B, D.i (↑(Int.toNat (o.I.toNat : Int)) : Int), D.i (↑(Int.toNat (p.I.toNat : Int)) : Int), D.i (↑(Int.toNat (q.I.toNat : Int)) : Int), D.l r.L, D.l s.L, D.l (List.set (List.set t.L a.I.toNat (updC (List.getD t.L a.I.toNat []) [D.b true] (0 + 0) 0 (List.length [K.bool, K.int IntKind.i64, K.int IntKind.i64, K.bool, K.bool]))) a.I.toNat (updC (List.getD (List.set t.L a.I.toNat (updC (List.getD t.L a.I.toNat []) [D.b true] (0 + 0) 0 (List.length [K.bool, K.int IntKind.i64, K.int IntKind.i64, K.bool, K.bool]))) a.I.toNat []) [D.i b.I] (0 + 1) 0 (List.length [K.bool, K.int IntKind.i64, K.int IntKind.i64, K.bool, K.bool])))]))))))) (T.leaf [D.i 2, D.i c.I, D.i d.I, D.i e.I, D.i f.I, D.i g.I, D.i h.I, D.b i.B, D.i j.I, D.b k.B, D.b l.B, D.i m.I, D.b n.B, D.i (↑(Int.toNat (o.I.toNat : Int)) : Int), D.i (↑(Int.toNat (p.I.toNat : Int)) : Int), D.i (↑(Int.toNat (q.I.toNat : Int)) : Int), D.l r.L, D.l s.L, D.l t.L]))) := by kernel_rfl
theorem t42 (a b c d e f g h i j k l m n o p : D) : (fnT C tab42 42 s42 [a, b, c, d, e, f, g, h, i, j, k, l, m, n, o, p]).run =
  T.run (T.ite (!decide (0 < o.L.length)) (T.leaf [D.b false, D.i 0, D.i 0, D.b false, D.b false, D.i 1]) (T.ite (!within p.I (0 : Int) (IntKind.wrap IntKind.i64 (f.I - (1 : Int)))) (T.leaf [D.b false, D.i 0, D.i 0, D.b false, D.b false, D.i 2]) (T.need (decide ((0 : Int) ≤ p.I ∧ p.I < (o.L.length : Int))) (T.leaf [D.b (D.B (List.getD (List.getD o.L p.I.toNat []) 0 default)), D.i (D.I (List.getD (List.getD o.L p.I.toNat []) (0 + 1) default)), D.i (D.I (List.getD (List.getD o.L p.I.toNat []) (0 + 1 + 1) default)), D.b (D.B (List.getD (List.getD o.L p.I.toNat []) (0 + 1 + 1 + 1) default)), D.b (D.B (List.getD (List.getD o.L p.I.toNat []) (0 + 1 + 1 + 1 + 1) default)), D.i 0])))) := by kernel_rfl
end Go.Proofs.Ytgmefblkmidglaa
namespace Go.Proofs.Ytgmefblkmidglaa
open Go.Lite
set_option linter.unusedVariables false
set_option maxRecDepth 100000
theorem t45 (a b c : D) : (fnT C tab45 45 s45 [a, b, c]).run =
  T.run (T.ite (decide (a.I ≥ b.I)) (T.leaf [D.b (decide (a.I ≤ c.I))]) (T.leaf [D.b false])) := by kernel_rfl
theorem t47 (a b c : D) : (fnT C tab47 47 s47 [a, b, c]).run =
  T.run (T.ite (decide (a.I ≥ b.I)) (T.leaf [D.b (decide (a.I ≤ c.I))]) (T.leaf [D.b false])) := by kernel_rfl
theorem t61 (a b c d e f g h i j k l m n o : D) : (fnT C tab61 61 s61 [a, b, c, d, e, f, g, h, i, j, k, l, m, n, o]).run =
  T.run (T.leaf [D.b (decide ((o.L.length : Int) > (0 : Int)))]) := by kernel_rfl
theorem t62 (a b c d e f g h i j k l m n o p q r s : D) : (fnT C tab62 62 s62 [a, b, c, d, e, f, g, h, i, j, k, l, m, n, o, p, q, r, s]).run =
  T.run (T.ite (p.I == (3 : Int)) (T.ite (p.I == (8 : Int)) (T.ite (decide (p.I < (1 : Int))) (T.leaf [D.b false]) (T.ite (decide (p.I > (10 : Int))) (T.leaf [D.b false]) (T.ite (!within q.I (0 : Int) (100000 : Int)) (T.leaf [D.b false]) (T.ite (within r.I (0 : Int) (IntKind.wrap IntKind.i64 (a.I - (1 : Int)))) (T.leaf [D.b (within s.I (0 : Int) (IntKind.wrap IntKind.i64 (f.I - (1 : Int))))]) (T.leaf [D.b false]))))) (T.ite (p.I == (9 : Int)) (T.ite (decide (p.I < (1 : Int))) (T.leaf [D.b false]) (T.ite (decide (p.I > (10 : Int))) (T.leaf [D.b false]) (T.ite (!within q.I (0 : Int) (100000 : Int)) (T.leaf [D.b false]) (T.ite (within r.I (0 : Int) (IntKind.wrap IntKind.i64 (a.I - (1 : Int)))) (T.leaf [D.b (within s.I (0 : Int) (IntKind.wrap IntKind.i64 (f.I - (1 : Int))))]) (T.leaf [D.b false]))))) (T.ite (decide (p.I < (1 : Int))) (T.leaf [D.b false]) (T.ite (decide (p.I > (10 : Int))) (T.leaf [D.b false]) (T.ite (!within q.I (0 : Int) (100000 : Int)) (T.leaf [D.b false]) (T.ite (!p.I == (10 : Int)) (T.ite (s.I != (0 : Int)) (T.leaf [D.b false]) (T.ite (within r.I (0 : Int) (IntKind.wrap IntKind.i64 (a.I - (1 : Int)))) (T.leaf [D.b (within s.I (0 : Int) (IntKind.wrap IntKind.i64 (f.I - (1 : Int))))]) (T.leaf [D.b false]))) (T.ite (within r.I (0 : Int) (IntKind.wrap IntKind.i64 (a.I - (1 : Int)))) (T.leaf [D.b (within s.I (0 : Int) (IntKind.wrap IntKind.i64 (f.I - (1 : Int))))]) (T.leaf [D.b false])))))))) (T.ite (p.I == (4 : Int)) (T.ite (p.I == (8 : Int)) (T.ite (decide (p.I < (1 : Int))) (T.leaf [D.b false]) (T.ite (decide (p.I > (10 : Int))) (T.leaf [D.b false]) (T.ite (!within q.I (0 : Int) (100000 : Int)) (T.leaf [D.b false]) (T.ite (within r.I (0 : Int) (IntKind.wrap IntKind.i64 (a.I - (1 : Int)))) (T.leaf [D.b (within s.I (0 : Int) (IntKind.wrap IntKind.i64 (f.I - (1 : Int))))]) (T.leaf [D.b false]))))) (T.ite (p.I == (9 : Int)) (T.ite (decide (p.I < (1 : Int))) (T.leaf [D.b false]) (T.ite (decide (p.I > (10 : Int))) (T.leaf [D.b false]) (T.ite (!within q.I (0 : Int) (100000 : Int)) (T.leaf [D.b false]) (T.ite (within r.I (0 : Int) (IntKind.wrap IntKind.i64 (a.I - (1 : Int)))) (T.leaf [D.b (within s.I (0 : Int) (IntKind.wrap IntKind.i64 (f.I - (1 : Int))))]) (T.leaf [D.b false]))))) (T.ite (decide (p.I < (1 : Int))) (T.leaf [D.b false]) (T.ite (decide (p.I > (10 : Int))) (T.leaf [D.b false]) (T.ite (!within q.I (0 : Int) (100000 : Int)) (T.leaf [D.b false]) (T.ite (!p.I == (10 : Int)) (T.ite (s.I != (0 : Int)) (T.leaf [D.b false]) (T.ite (within r.I (0 : Int) (IntKind.wrap IntKind.i64 (a.I - (1 : Int)))) (T.leaf [D.b (within s.I (0 : Int) (IntKind.wrap IntKind.i64 (f.I - (1 : Int))))]) (T.leaf [D.b false]))) (T.ite (within r.I (0 : Int) (IntKind.wrap IntKind.i64 (a.I - (1 : Int)))) (T.leaf [D.b (within s.I (0 : Int) (IntKind.wrap IntKind.i64 (f.I - (1 : Int))))]) (T.leaf [D.b false])))))))) (T.ite (p.I == (5 : Int)) (T.ite (p.I == (8 : Int)) (T.ite (decide (p.I < (1 : Int))) (T.leaf [D.b false]) (T.ite (decide (p.I > (10 : Int))) (T.leaf [D.b false]) (T.ite (!within q.I (0 : Int) (100000 : Int)) (T.leaf [D.b false]) (T.ite (within r.I (0 : Int) (IntKind.wrap IntKind.i64 (a.I - (1 : Int)))) (T.leaf [D.b (within s.I (0 : Int) (IntKind.wrap IntKind.i64 (f.I - (1 : Int))))]) (T.leaf [D.b false]))))) (T.ite (p.I == (9 : Int)) (T.ite (decide (p.I < (1 : Int))) (T.leaf [D.b false]) (T.ite (decide (p.I > (10 : Int))) (T.leaf [D.b false]) (T.ite (!within q.I (0 : Int) (100000 : Int)) (T.leaf [D.b false]) (T.ite (within r.I (0 : Int) (IntKind.wrap IntKind.i64 (a.I - (1 : Int)))) (T.leaf [D.b (within s.I (0 : Int) (IntKind.wrap IntKind.i64 (f.I - (1 : Int))))]) (T.leaf [D.b false]))))) (T.ite (decide (p.I < (1 : Int))) (T.leaf [D.b false]) (T.ite (decide (p.I > (10 : Int))) (T.leaf [D.b false]) (T.ite (!within q.I (0 : Int) (100000 : Int)) (T.leaf [D.b false]) (T.ite (!p.I == (10 : Int)) (T.ite (s.I != (0 : Int)) (T.leaf [D.b false]) (T.ite (within r.I (0 : Int) (IntKind.wrap IntKind.i64 (a.I - (1 : Int)))) (T.leaf [D.b (within s.I (0 : Int) (IntKind.wrap IntKind.i64 (f.I - (1 : Int))))]) (T.leaf [D.b false]))) (T.ite (within r.I (0 : Int) (IntKind.wrap IntKind.i64 (a.I - (1 : Int)))) (T.leaf [D.b (within s.I (0 : Int) (IntKind.wrap IntKind.i64 (f.I - (1 : Int))))]) (T.leaf [D.b false])))))))) (T.ite (p.I == (8 : Int)) (T.ite (decide (p.I < (1 : Int))) (T.leaf [D.b false]) (T.ite (decide (p.I > (10 : Int))) (T.leaf [D.b false]) (T.ite (!within q.I (0 : Int) (100000 : Int)) (T.leaf [D.b false]) (T.ite (!p.I == (8 : Int)) (T.ite (r.I != (0 : Int)) (T.leaf [D.b false]) (T.ite (within r.I (0 : Int) (IntKind.wrap IntKind.i64 (a.I - (1 : Int)))) (T.leaf [D.b (within s.I (0 : Int) (IntKind.wrap IntKind.i64 (f.I - (1 : Int))))]) (T.leaf [D.b false]))) (T.ite (within r.I (0 : Int) (IntKind.wrap IntKind.i64 (a.I - (1 : Int)))) (T.leaf [D.b (within s.I (0 : Int) (IntKind.wrap IntKind.i64 (f.I - (1 : Int))))]) (T.leaf [D.b false])))))) (T.ite (p.I == (9 : Int)) (T.ite (decide (p.I < (1 : Int))) (T.leaf [D.b false]) (T.ite (decide (p.I > (10 : Int))) (T.leaf [D.b false]) (T.ite (!within q.I (0 : Int) (100000 : Int)) (T.leaf [D.b false]) (T.ite (!p.I == (8 : Int)) (T.ite (r.I != (0 : Int)) (T.leaf [D.b false]) (T.ite (within r.I (0 : Int) (IntKind.wrap IntKind.i64 (a.I - (1 : Int)))) (T.leaf [D.b (within s.I (0 : Int) (IntKind.wrap IntKind.i64 (f.I - (1 : Int))))]) (T.leaf [D.b false]))) (T.ite (within r.I (0 : Int) (IntKind.wrap IntKind.i64 (a.I - (1 : Int)))) (T.leaf [D.b (within s.I (0 : Int) (IntKind.wrap IntKind.i64 (f.I - (1 : Int))))]) (T.leaf [D.b false])))))) (T.ite (decide (p.I < (1 : Int))) (T.leaf [D.b false]) (T.ite (decide (p.I > (10 : Int))) (T.leaf [D.b false]) (T.ite (!within q.I (0 : Int) (100000 : Int)) (T.leaf [D.b false]) (T.ite (!p.I == (8 : Int)) (T.ite (r.I != (0 : Int)) (T.leaf [D.b false]) (T.ite (!p.I == (10 : Int)) (T.ite (s.I != (0 : Int)) (T.leaf [D.b false]) (T.ite (within r.I (0 : Int) (IntKind.wrap IntKind.i64 (a.I - (1 : Int)))) (T.leaf [D.b (within s.I (0 : Int) (IntKind.wrap IntKind.i64 (f.I - (1 : Int))))]) (T.leaf [D.b false]))) (T.ite (within r.I (0 : Int) (IntKind.wrap IntKind.i64 (a.I - (1 : Int)))) (T.leaf [D.b (within s.I (0 : Int) (IntKind.wrap IntKind.i64 (f.I - (1 : Int))))]) (T.leaf [D.b false])))) (T.ite (!p.I == (10 : Int)) (T.ite (s.I != (0 : Int)) (T.leaf [D.b false]) (T.ite (within r.I (0 : Int) (IntKind.wrap IntKind.i64 (a.I - (1 : Int)))) (T.leaf [D.b (within s.I (0 : Int) (IntKind.wrap IntKind.i64 (f.I - (1 : Int))))]) (T.leaf [D.b false]))) (T.ite (within r.I (0 : Int) (IntKind.wrap IntKind.i64 (a.I - (1 : Int)))) (T.leaf [D.b (within s.I (0 : Int) (IntKind.wrap IntKind.i64 (f.I - (1 : Int))))]) (T.leaf [D.b false])))))))))))) := by kernel_rfl
theorem t85 (a b c : D) : (fnT C tab85 85 s85 [a, b, c]).run =
  T.run (T.leaf [D.b a.B]) := by kernel_rfl
theorem t86 (a b c d e f g h i j k l m n o p q r s : D) : (fnT C tab86 86 s86 [a, b, c, d, e, f, g, h, i, j, k, l, m, n, o, p, q, r, s]).run =
  T.run (T.ite (!c.B) (T.leaf [D.b true]) (T.leaf [D.b (decide (IntKind.wrap IntKind.i64 (d.I - b.I) > f.I))])) := by kernel_rfl
theorem t88 (a b c d e f g h i j k l m n o p q r s t : D) : (fnT C tab88 88 s88 [a, b, c, d, e, f, g, h, i, j, k, l, m, n, o, p, q, r, s, t]).run =
  T.run (T.ite (!d.B) (T.leaf [D.b (decide (c.I < IntKind.wrap IntKind.i64 (h.I - (1 : Int))))]) (T.leaf [D.b false])) := by kernel_rfl
theorem t89 (a b c d e f g h i j k l m n o p q r s t u : D) : (fnT C tab89 89 s89 [a, b, c, d, e, f, g, h, i, j, k, l, m, n, o, p, q, r, s, t, u]).run =
  T.run (T.ite (!d.B) (T.ite (!e.B) (T.ite (decide (c.I < IntKind.wrap IntKind.i64 (f.I - (1 : Int)))) (T.leaf [D.b (decide (IntKind.wrap IntKind.i64 (u.I - b.I) > j.I))]) (T.leaf [D.b false])) (T.leaf [D.b false])) (T.leaf [D.b false])) := by kernel_rfl
theorem t90 (a b c d e f g h i j k l m n o p q r s t u : D) : (fnT C tab90 90 s90 [a, b, c, d, e, f, g, h, i, j, k, l, m, n, o, p, q, r, s, t, u]).run =
  T.run (T.leaf [D.b (decide (b.I > IntKind.wrap IntKind.i64 (f.I - j.I)))]) := by kernel_rfl
theorem t92 (a b c d e : D) : (fnT C tab92 92 s92 [a, b, c, d, e]).run =
  T.run (T.leaf [D.b a.B]) := by kernel_rfl
theorem t1098 (a : D) : (fnT C tab1098 98 s1098 [a]).run =
  T.run (T.need (yes (a.L.length < big ∧ (a.L.length : Int) = (a.L.length : Int) ∧ (0 : Int) ≤ (0 : Int) ∧ (0 : Int) ≤ (a.L.length : Int))) (T.ite (decide (fstL redR a.L (Int.toNat (0 : Int)) (a.L.length - Int.toNat (0 : Int)) ≥ (0 : Int))) (T.leaf [D.i (fstL redR a.L (Int.toNat (0 : Int)) (a.L.length - Int.toNat (0 : Int)))]) (T.leaf [D.i (-1 : Int)]))) := by kernel_rfl
theorem t1098_2 (a b c : D) : (roundT C tab1098 98 (loopOf C.P 98 2) l1098_2 [a, b, c]).run =
  T.run (T.ite (decide (c.I < b.I)) (T.need (decide ((0 : Int) ≤ c.I ∧ c.I < (a.L.length : Int))) (T.ite (redR (mk3b (D.b (D.B (List.getD (List.getD a.L c.I.toNat []) 0 default))) (D.i (D.I (List.getD (List.getD a.L c.I.toNat []) (0 + 1) default))) (D.b (D.B (List.getD (List.getD a.L c.I.toNat []) (0 + 1 + 1) default))))) (T.leaf (Rd.out Ex.ret [D.i c.I])) (T.leaf (Rd.again [D.l a.L, D.i b.I, D.i (IntKind.wrap IntKind.i64 (c.I + (1 : Int)))])))) (T.leaf (Rd.out (Ex.exit 0) []))) := by kernel_rfl
theorem t2098 (a b c d e f g h i j k l m n o p q : D) : (fnT C tab2098 98 s2098 [a, b, c, d, e, f, g, h, i, j, k, l, m, n, o, p, q]).run =
  T.run (T.need (yes (a.L.length < big ∧ okLo a.L ∧ tOK b.I ∧ (a.L.length : Int) = (a.L.length : Int) ∧ (0 : Int) ≤ (0 : Int) ∧ (0 : Int) ≤ (a.L.length : Int))) (T.ite (decide (fstL (silR b.I d.I) a.L (Int.toNat (0 : Int)) (a.L.length - Int.toNat (0 : Int)) ≥ (0 : Int))) (T.leaf [D.i (fstL (silR b.I d.I) a.L (Int.toNat (0 : Int)) (a.L.length - Int.toNat (0 : Int)))]) (T.leaf [D.i (-1 : Int)]))) := by kernel_rfl
theorem t2098_2 (a b c d e f g h i j k l m n o p q r s : D) : (roundT C tab2098 98 (loopOf C.P 98 2) l2098_2 [a, b, c, d, e, f, g, h, i, j, k, l, m, n, o, p, q, r, s]).run =
  T.run (T.ite (decide (s.I < r.I)) (T.need (decide ((0 : Int) ≤ s.I ∧ s.I < (a.L.length : Int))) (T.need (yes (tOK (D.I (List.getD (List.getD a.L s.I.toNat []) (0 + 1) default)) ∧ tOK b.I)) (T.ite (silR b.I d.I (mk3b (D.b (D.B (List.getD (List.getD a.L s.I.toNat []) 0 default))) (D.i (D.I (List.getD (List.getD a.L s.I.toNat []) (0 + 1) default))) (D.b (D.B (List.getD (List.getD a.L s.I.toNat []) (0 + 1 + 1) default))))) (T.leaf (Rd.out Ex.ret [D.i s.I])) (T.leaf (Rd.again [D.l a.L, D.i b.I, D.i c.I, D.i d.I, D.i e.I, D.i f.I, D.i g.I, D.i h.I, D.b i.B, D.i j.I, D.b k.B, D.b l.B, D.i m.I, D.b n.B, D.l o.L, D.l p.L, D.l q.L, D.i r.I, D.i (IntKind.wrap IntKind.i64 (s.I + (1 : Int)))]))))) (T.leaf (Rd.out (Ex.exit 0) []))) := by kernel_rfl
theorem t1084 (a : D) : (fnT C tab1084 84 s1084 [a]).run =
  T.run (T.need (yes (a.L.length < big)) (T.leaf [D.b (decide (fstL redR a.L 0 a.L.length ≥ (0 : Int)))])) := by kernel_rfl
theorem t2084 (a b c d e f g h i j k l m n o p q : D) : (fnT C tab2084 84 s2084 [a, b, c, d, e, f, g, h, i, j, k, l, m, n, o, p, q]).run =
  T.run (T.need (yes (a.L.length < big ∧ okLo a.L ∧ tOK b.I)) (T.leaf [D.b (decide (fstL (silR b.I d.I) a.L 0 a.L.length ≥ (0 : Int)))])) := by kernel_rfl
theorem t1099 (a b c d e f g h i j k l m n o p q r s t : D) : (fnT C tab1099 99 s1099 [a, b, c, d, e, f, g, h, i, j, k, l, m, n, o, p, q, r, s, t]).run =
  T.run (T.ite a.B (T.need (yes (okPl f.I g.I h.I i.I j.I k.I)) (T.leaf [D.b (befR h.I (mk5c (D.b a.B) (D.i b.I) (D.i c.I) (D.b d.B) (D.b e.B)))])) (T.leaf [D.b false])) := by kernel_rfl
theorem t2099 (a b c d e f g h i j k l m n o p q r s t u : D) : (fnT C tab2099 99 s2099 [a, b, c, d, e, f, g, h, i, j, k, l, m, n, o, p, q, r, s, t, u]).run =
  T.run (T.ite a.B (T.need (yes (okPl f.I g.I h.I i.I j.I k.I ∧ tOK b.I ∧ tOK u.I)) (T.leaf [D.b (misR f.I j.I u.I (mk5c (D.b a.B) (D.i b.I) (D.i c.I) (D.b d.B) (D.b e.B)))])) (T.leaf [D.b false])) := by kernel_rfl
theorem t3099 (a b c d e f g h i j k l m n o p q r s t u : D) : (fnT C tab3099 99 s3099 [a, b, c, d, e, f, g, h, i, j, k, l, m, n, o, p, q, r, s, t, u]).run =
  T.run (T.ite a.B (T.need (yes (okPl g.I h.I i.I j.I k.I l.I ∧ tOK f.I)) (T.leaf [D.b (intR j.I f.I (mk5c (D.b a.B) (D.i b.I) (D.i c.I) (D.b d.B) (D.b e.B)))])) (T.leaf [D.b false])) := by kernel_rfl
theorem t1100 (a : D) : (fnT C tab1100 100 s1100 [a]).run =
  T.run (T.need (yes (a.L.length < big ∧ (a.L.length : Int) = (a.L.length : Int) ∧ (0 : Int) ≤ (0 : Int) ∧ (0 : Int) ≤ (a.L.length : Int))) (T.ite (decide (fstL stR a.L (Int.toNat (0 : Int)) (a.L.length - Int.toNat (0 : Int)) ≥ (0 : Int))) (T.leaf [D.i (fstL stR a.L (Int.toNat (0 : Int)) (a.L.length - Int.toNat (0 : Int)))]) (T.leaf [D.i (-1 : Int)]))) := by kernel_rfl
theorem t1100_2 (a b c : D) : (roundT C tab1100 100 (loopOf C.P 100 2) l1100_2 [a, b, c]).run =
  T.run (T.ite (decide (c.I < b.I)) (T.need (decide ((0 : Int) ≤ c.I ∧ c.I < (a.L.length : Int))) (T.ite (stR (mk5c (D.b (D.B (List.getD (List.getD a.L c.I.toNat []) 0 default))) (D.i (D.I (List.getD (List.getD a.L c.I.toNat []) (0 + 1) default))) (D.i (D.I (List.getD (List.getD a.L c.I.toNat []) (0 + 1 + 1) default))) (D.b (D.B (List.getD (List.getD a.L c.I.toNat []) (0 + 1 + 1 + 1) default))) (D.b (D.B (List.getD (List.getD a.L c.I.toNat []) (0 + 1 + 1 + 1 + 1) default))))) (T.leaf (Rd.out Ex.ret [D.i c.I])) (T.leaf (Rd.again [D.l a.L, D.i b.I, D.i (IntKind.wrap IntKind.i64 (c.I + (1 : Int)))])))) (T.leaf (Rd.out (Ex.exit 0) []))) := by kernel_rfl
theorem t2100 (a b c d e f g h i j k l m n o p : D) : (fnT C tab2100 100 s2100 [a, b, c, d, e, f, g, h, i, j, k, l, m, n, o, p]).run =
  T.run (T.need (yes (a.L.length < big ∧ okPl b.I c.I d.I e.I f.I g.I ∧ (a.L.length : Int) = (a.L.length : Int) ∧ (0 : Int) ≤ (0 : Int) ∧ (0 : Int) ≤ (a.L.length : Int))) (T.ite (decide (fstL (both (befR d.I)) a.L (Int.toNat (0 : Int)) (a.L.length - Int.toNat (0 : Int)) ≥ (0 : Int))) (T.leaf [D.i (fstL (both (befR d.I)) a.L (Int.toNat (0 : Int)) (a.L.length - Int.toNat (0 : Int)))]) (T.leaf [D.i (-1 : Int)]))) := by kernel_rfl
theorem t2100_2 (a b c d e f g h i j k l m n o p q r : D) : (roundT C tab2100 100 (loopOf C.P 100 2) l2100_2 [a, b, c, d, e, f, g, h, i, j, k, l, m, n, o, p, q, r]).run =
  T.run (T.ite (decide (r.I < q.I)) (T.need (decide ((0 : Int) ≤ r.I ∧ r.I < (a.L.length : Int))) (T.need (yes (okPl b.I c.I d.I e.I f.I g.I)) (T.ite (both (befR d.I) (mk5c (D.b (D.B (List.getD (List.getD a.L r.I.toNat []) 0 default))) (D.i (D.I (List.getD (List.getD a.L r.I.toNat []) (0 + 1) default))) (D.i (D.I (List.getD (List.getD a.L r.I.toNat []) (0 + 1 + 1) default))) (D.b (D.B (List.getD (List.getD a.L r.I.toNat []) (0 + 1 + 1 + 1) default))) (D.b (D.B (List.getD (List.getD a.L r.I.toNat []) (0 + 1 + 1 + 1 + 1) default))))) (T.leaf (Rd.out Ex.ret [D.i r.I])) (T.leaf (Rd.again [D.l a.L, D.i b.I, D.i c.I, D.i d.I, D.i e.I, D.i f.I, D.i g.I, D.b h.B, D.i i.I, D.b j.B, D.b k.B, D.i l.I, D.b m.B, D.l n.L, D.l o.L, D.l p.L, D.i q.I, D.i (IntKind.wrap IntKind.i64 (r.I + (1 : Int)))]))))) (T.leaf (Rd.out (Ex.exit 0) []))) := by kernel_rfl
theorem t3100 (a b c d e f g h i j k l m n o p q : D) : (fnT C tab3100 100 s3100 [a, b, c, d, e, f, g, h, i, j, k, l, m, n, o, p, q]).run =
  T.run (T.need (yes (a.L.length < big ∧ okPl b.I c.I d.I e.I f.I g.I ∧ okCa a.L ∧ tOK q.I ∧ (a.L.length : Int) = (a.L.length : Int) ∧ (0 : Int) ≤ (0 : Int) ∧ (0 : Int) ≤ (a.L.length : Int))) (T.ite (decide (fstL (both (misR b.I f.I q.I)) a.L (Int.toNat (0 : Int)) (a.L.length - Int.toNat (0 : Int)) ≥ (0 : Int))) (T.leaf [D.i (fstL (both (misR b.I f.I q.I)) a.L (Int.toNat (0 : Int)) (a.L.length - Int.toNat (0 : Int)))]) (T.leaf [D.i (-1 : Int)]))) := by kernel_rfl
theorem t3100_2 (a b c d e f g h i j k l m n o p q r s : D) : (roundT C tab3100 100 (loopOf C.P 100 2) l3100_2 [a, b, c, d, e, f, g, h, i, j, k, l, m, n, o, p, q, r, s]).run =
  T.run (T.ite (decide (s.I < r.I)) (T.need (decide ((0 : Int) ≤ s.I ∧ s.I < (a.L.length : Int))) (T.need (yes (okPl b.I c.I d.I e.I f.I g.I ∧ tOK (D.I (List.getD (List.getD a.L s.I.toNat []) (0 + 1) default)) ∧ tOK q.I)) (T.ite (both (misR b.I f.I q.I) (mk5c (D.b (D.B (List.getD (List.getD a.L s.I.toNat []) 0 default))) (D.i (D.I (List.getD (List.getD a.L s.I.toNat []) (0 + 1) default))) (D.i (D.I (List.getD (List.getD a.L s.I.toNat []) (0 + 1 + 1) default))) (D.b (D.B (List.getD (List.getD a.L s.I.toNat []) (0 + 1 + 1 + 1) default))) (D.b (D.B (List.getD (List.getD a.L s.I.toNat []) (0 + 1 + 1 + 1 + 1) default))))) (T.leaf (Rd.out Ex.ret [D.i s.I])) (T.leaf (Rd.again [D.l a.L, D.i b.I, D.i c.I, D.i d.I, D.i e.I, D.i f.I, D.i g.I, D.b h.B, D.i i.I, D.b j.B, D.b k.B, D.i l.I, D.b m.B, D.l n.L, D.l o.L, D.l p.L, D.i q.I, D.i r.I, D.i (IntKind.wrap IntKind.i64 (s.I + (1 : Int)))]))))) (T.leaf (Rd.out (Ex.exit 0) []))) := by kernel_rfl
theorem t4100 (a b c d e f g h i j k l m n o p q : D) : (fnT C tab4100 100 s4100 [a, b, c, d, e, f, g, h, i, j, k, l, m, n, o, p, q]).run =
  T.run (T.need (yes (a.L.length < big ∧ okPl c.I d.I e.I f.I g.I h.I ∧ okCa a.L ∧ tOK b.I ∧ (a.L.length : Int) = (a.L.length : Int) ∧ (0 : Int) ≤ (0 : Int) ∧ (0 : Int) ≤ (a.L.length : Int))) (T.ite (decide (fstL (both (intR f.I b.I)) a.L (Int.toNat (0 : Int)) (a.L.length - Int.toNat (0 : Int)) ≥ (0 : Int))) (T.leaf [D.i (fstL (both (intR f.I b.I)) a.L (Int.toNat (0 : Int)) (a.L.length - Int.toNat (0 : Int)))]) (T.leaf [D.i (-1 : Int)]))) := by kernel_rfl
theorem t4100_2 (a b c d e f g h i j k l m n o p q r s : D) : (roundT C tab4100 100 (loopOf C.P 100 2) l4100_2 [a, b, c, d, e, f, g, h, i, j, k, l, m, n, o, p, q, r, s]).run =
  T.run (T.ite (decide (s.I < r.I)) (T.need (decide ((0 : Int) ≤ s.I ∧ s.I < (a.L.length : Int))) (T.need (yes (okPl c.I d.I e.I f.I g.I h.I ∧ tOK b.I)) (T.ite (both (intR f.I b.I) (mk5c (D.b (D.B (List.getD (List.getD a.L s.I.toNat []) 0 default))) (D.i (D.I (List.getD (List.getD a.L s.I.toNat []) (0 + 1) default))) (D.i (D.I (List.getD (List.getD a.L s.I.toNat []) (0 + 1 + 1) default))) (D.b (D.B (List.getD (List.getD a.L s.I.toNat []) (0 + 1 + 1 + 1) default))) (D.b (D.B (List.getD (List.getD a.L s.I.toNat []) (0 + 1 + 1 + 1 + 1) default))))) (T.leaf (Rd.out Ex.ret [D.i s.I])) (T.leaf (Rd.again [D.l a.L, D.i b.I, D.i c.I, D.i d.I, D.i e.I, D.i f.I, D.i g.I, D.i h.I, D.b i.B, D.i j.I, D.b k.B, D.b l.B, D.i m.I, D.b n.B, D.l o.L, D.l p.L, D.l q.L, D.i r.I, D.i (IntKind.wrap IntKind.i64 (s.I + (1 : Int)))]))))) (T.leaf (Rd.out (Ex.exit 0) []))) := by kernel_rfl
theorem t1091 (a : D) : (fnT C tab1091 91 s1091 [a]).run =
  T.run (T.need (yes (a.L.length < big)) (T.leaf [D.b (decide (fstL stR a.L 0 a.L.length ≥ (0 : Int)))])) := by kernel_rfl
theorem t2091 (a b c d e f g h i j k l m n o p : D) : (fnT C tab2091 91 s2091 [a, b, c, d, e, f, g, h, i, j, k, l, m, n, o, p]).run =
  T.run (T.need (yes (a.L.length < big ∧ okPl b.I c.I d.I e.I f.I g.I)) (T.leaf [D.b (decide (fstL (both (befR d.I)) a.L 0 a.L.length ≥ (0 : Int)))])) := by kernel_rfl
theorem t3091 (a b c d e f g h i j k l m n o p q : D) : (fnT C tab3091 91 s3091 [a, b, c, d, e, f, g, h, i, j, k, l, m, n, o, p, q]).run =
  T.run (T.need (yes (a.L.length < big ∧ okPl b.I c.I d.I e.I f.I g.I ∧ okCa a.L ∧ tOK q.I)) (T.leaf [D.b (decide (fstL (both (misR b.I f.I q.I)) a.L 0 a.L.length ≥ (0 : Int)))])) := by kernel_rfl
theorem t4091 (a b c d e f g h i j k l m n o p q : D) : (fnT C tab4091 91 s4091 [a, b, c, d, e, f, g, h, i, j, k, l, m, n, o, p, q]).run =
  T.run (T.need (yes (a.L.length < big ∧ okPl c.I d.I e.I f.I g.I h.I ∧ okCa a.L ∧ tOK b.I)) (T.leaf [D.b (decide (fstL (both (intR f.I b.I)) a.L 0 a.L.length ≥ (0 : Int)))])) := by kernel_rfl
theorem t1087 (a b c d e f g h i j k l m n o p q r s t u v w x y z z26 z27 z28 z29 : D) : (fnT C tab1087 87 s1087 [a, b, c, d, e, f, g, h, i, j, k, l, m, n, o, p, q, r, s, t, u, v, w, x, y, z, z26, z27, z28, z29]).run =
  T.run (T.need (yes (o.L.length < big ∧ okPl p.I q.I r.I s.I t.I u.I)) (T.leaf [D.b (anyL (both (befR r.I)) o.L)])) := by kernel_rfl
theorem t2087 (a b c d e f g h i j k l m n o p q r s t u v w x y z z26 z27 z28 z29 z30 : D) : (fnT C tab2087 87 s2087 [a, b, c, d, e, f, g, h, i, j, k, l, m, n, o, p, q, r, s, t, u, v, w, x, y, z, z26, z27, z28, z29, z30]).run =
  T.run (T.need (yes (o.L.length < big ∧ okPl p.I q.I r.I s.I t.I u.I ∧ okCa o.L ∧ tOK z30.I)) (T.leaf [D.b (anyL (both (misR p.I t.I z30.I)) o.L)])) := by kernel_rfl
theorem t3087 (a b c d e f g h i j k l m n o p q r s t u v w x y z z26 z27 z28 z29 z30 : D) : (fnT C tab3087 87 s3087 [a, b, c, d, e, f, g, h, i, j, k, l, m, n, o, p, q, r, s, t, u, v, w, x, y, z, z26, z27, z28, z29, z30]).run =
  T.run (T.need (yes (o.L.length < big ∧ okPl q.I r.I s.I t.I u.I v.I ∧ okCa o.L ∧ tOK p.I)) (T.leaf [D.b (anyL (both (intR t.I p.I)) o.L)])) := by kernel_rfl
theorem t65 (a b c d e f g h i j k l m n o p q : D) : (fnT C tab65 65 s65 [a, b, c, d, e, f, g, h, i, j, k, l, m, n, o, p, q]).run =
  T.run (T.leaf [D.b !g.B]) := by kernel_rfl
theorem t66 (a b c d e f g h i j k l m n o p q : D) : (fnT C tab66 66 s66 [a, b, c, d, e, f, g, h, i, j, k, l, m, n, o, p, q]).run =
  T.run (T.need (yes (m.L.length < big)) (T.leaf [D.b (anyL redR m.L)])) := by kernel_rfl
theorem t67 (a b c d e f g h i j k l m n o p q : D) : (fnT C tab67 67 s67 [a, b, c, d, e, f, g, h, i, j, k, l, m, n, o, p, q]).run =
  T.run (T.need (yes (n.L.length < big ∧ okLo n.L ∧ tOK q.I)) (T.leaf [D.b (anyL (silR q.I b.I) n.L)])) := by kernel_rfl
theorem t68 (a b c d e f g h i j k l m n o p q : D) : (fnT C tab68 68 s68 [a, b, c, d, e, f, g, h, i, j, k, l, m, n, o, p, q]).run =
  T.run (T.leaf [D.b !j.B]) := by kernel_rfl
theorem t69 (a b c d e f g h i j k l m n o p q : D) : (fnT C tab69 69 s69 [a, b, c, d, e, f, g, h, i, j, k, l, m, n, o, p, q]).run =
  T.run (T.need (yes (okPl a.I b.I c.I d.I e.I f.I ∧ o.L.length < big)) (T.leaf [D.b (anyL (both (befR c.I)) o.L)])) := by kernel_rfl
theorem t70 (a b c d e f g h i j k l m n o p q : D) : (fnT C tab70 70 s70 [a, b, c, d, e, f, g, h, i, j, k, l, m, n, o, p, q]).run =
  T.run (T.need (yes (okPl a.I b.I c.I d.I e.I f.I ∧ o.L.length < big ∧ okCa o.L ∧ tOK q.I)) (T.leaf [D.b (anyL (both (misR a.I e.I q.I)) o.L)])) := by kernel_rfl
theorem t71 (a b c d e f g h i j k l m n o p q : D) : (fnT C tab71 71 s71 [a, b, c, d, e, f, g, h, i, j, k, l, m, n, o, p, q]).run =
  T.run (T.need (yes (okPl a.I b.I c.I d.I e.I f.I ∧ o.L.length < big ∧ okCa o.L ∧ tOK q.I)) (T.leaf [D.b (anyL (both (intR d.I q.I)) o.L)])) := by kernel_rfl
theorem t72 (a b c d e f g h i j k l m n o p q : D) : (fnT C tab72 72 s72 [a, b, c, d, e, f, g, h, i, j, k, l, m, n, o, p, q]).run =
  T.run (T.need (decide ((0 : Int) ≤ p.I ∧ p.I ≤ (o.L.length : Int))) (T.need (yes (List.length (List.take (o.L.length - p.I.toNat) (List.drop p.I.toNat o.L)) < big)) (T.leaf [D.b (anyL stR (List.take (o.L.length - p.I.toNat) (List.drop p.I.toNat o.L)))]))) := by kernel_rfl
end Go.Proofs.Ytgmefblkmidglaa
namespace Go.Proofs.Ytgmefblkmidglaa
open Go.Lite
set_option maxRecDepth 100000
set_option linter.unusedVariables false
theorem fst_all (R : List D → Bool) (l : List (List D)) : decide (fstL R l 0 l.length ≥ 0) = anyL R l := by
  unfold fstL anyL
  rw [firstFrom_all]
theorem fst_end {R : List D → Bool} {l : List (List D)} {i k : Nat} (h : ¬ fstL R l i k ≥ 0) : fstL R l i k = -1 := firstFrom_neg (by unfold fstL at h; omega)
theorem red_row (c : List D) : redR (mk3b (.b (bx c 0)) (.i (ix c 1)) (.b (bx c 2))) = redR c := rfl
theorem sil_row (t p1 : Int) (c : List D) : silR t p1 (mk3b (.b (bx c 0)) (.i (ix c 1)) (.b (bx c 2))) = silR t p1 c := rfl
theorem st_row (c : List D) : stR (mk5c (.b (bx c 0)) (.i (ix c 1)) (.i (ix c 2)) (.b (bx c 3)) (.b (bx c 4))) = stR c := rfl
theorem bef_row (p2 : Int) (c : List D) : both (befR p2) (mk5c (.b (bx c 0)) (.i (ix c 1)) (.i (ix c 2)) (.b (bx c 3)) (.b (bx c 4))) = both (befR p2) c := rfl
theorem mis_row (p0 p4 t : Int) (c : List D) : both (misR p0 p4 t) (mk5c (.b (bx c 0)) (.i (ix c 1)) (.i (ix c 2)) (.b (bx c 3)) (.b (bx c 4))) = both (misR p0 p4 t) c := rfl
theorem int_row (p3 t : Int) (c : List D) : both (intR p3 t) (mk5c (.b (bx c 0)) (.i (ix c 1)) (.i (ix c 2)) (.b (bx c 3)) (.b (bx c 4))) = both (intR p3 t) c := rfl
theorem ok45 (n : Nat) : FnOK C (n + 1) 45 (mkF s45 G45) := by
  refine fn_ofS hC (sp := sp45) (lp := lp45) (sw := sw45) trivial trivial (by kernel_rfl) [] (by kernel_rfl) rfl (fun k hk => by cases hk) fun ds r h => ?_
  unfold G45 at h
  split at h
  · rename_i n' b c
    refine (t45 n' b c).trans ?_
    rw [← h]
    refine go_if (fun h1 => ?_) fun h1 => ?_
    · rw [within_dec]
      simp only [run_leaf, show (b.I ≤ n'.I ∧ n'.I ≤ c.I) ↔ n'.I ≤ c.I from ⟨fun h => h.2, fun h => ⟨h1, h⟩⟩]
    · rw [within_dec, decide_eq_false (fun h => h1 h.1)]
  · cases h
theorem ok47 (n : Nat) : FnOK C (n + 1) 47 (mkF s47 G47) := by
  refine fn_ofS hC (sp := sp47) (lp := lp47) (sw := sw47) trivial trivial (by kernel_rfl) [] (by kernel_rfl) rfl (fun k hk => by cases hk) fun ds r h => ?_
  unfold G47 at h
  split at h
  · rename_i n' b c
    refine (t47 n' b c).trans ?_
    rw [← h]
    refine go_if (fun h1 => ?_) fun h1 => ?_
    · rw [within_dec]
      simp only [run_leaf, show (b.I ≤ n'.I ∧ n'.I ≤ c.I) ↔ n'.I ≤ c.I from ⟨fun h => h.2, fun h => ⟨h1, h⟩⟩]
    · rw [within_dec, decide_eq_false (fun h => h1 h.1)]
  · cases h
theorem ok61 (n : Nat) : FnOK C (n + 1) 61 (mkF s61 G61) := by
  refine fn_ofS hC (sp := sp61) (lp := lp61) (sw := sw61) trivial trivial (by kernel_rfl) [] (by kernel_rfl) rfl (fun k hk => by cases hk) fun ds r h => ?_
  unfold G61 at h
  split at h
  · rename_i p0 p1 p2 p3 p4 p5 ov os oh cv cs ch rd po ca
    refine (t61 p0 p1 p2 p3 p4 p5 ov os oh cv cs ch rd po ca).trans ?_
    rw [← h]
    simp only [run_leaf, gt_iff_lt, Int.natCast_pos]
  · cases h
theorem ok62 (n : Nat) : FnOK C (n + 2) 62 (mkF s62 G62) := by
  refine fn_ofS hC (sp := sp62) (lp := lp62) (sw := sw62) ⟨ok45 n, trivial⟩ trivial (by kernel_rfl) [] (by kernel_rfl) rfl (fun k hk => by cases hk) fun ds r h => ?_
  unfold G62 at h
  split at h
  · rename_i p0 p1 p2 p3 p4 p5 ov os oh cv cs ch rd po ca k s p c
    obtain ⟨hp, h⟩ := need_some h
    rw [yes_iff] at hp
    refine (t62 p0 p1 p2 p3 p4 p5 ov os oh cv cs ch rd po ca k s p c).trans ?_
    rw [← h]
    unfold okPl at hp
    have e0 : IntKind.i64.wrap (p0.I - 1) = p0.I - 1 := wrap_id (by omega) (by omega)
    have e5 : IntKind.i64.wrap (p5.I - 1) = p5.I - 1 := wrap_id (by omega) (by omega)
    simp only [e0, e5]
    unfold evB
    repeat' (refine go_ite (fun h => ?_) (fun h => ?_))
    all_goals try simp only [within_dec, Bool.not_eq_true', Bool.not_eq_false', beq_iff_eq, beq_eq_false_iff_ne, bne_iff_ne, bne_eq_false_iff_eq, decide_eq_true_eq, decide_eq_false_iff_not, ne_eq] at *
    all_goals first
      | exact congrArg (fun b => some [D.b b]) (decide_eq_false (by omega)).symm
      | exact congrArg (fun b => some [D.b b]) (decide_eq_decide.2 (by omega))
  · cases h
theorem ok85 (n : Nat) : FnOK C (n + 1) 85 (mkF s85 G85) := by
  refine fn_ofS hC (sp := sp85) (lp := lp85) (sw := sw85) trivial trivial (by kernel_rfl) [] (by kernel_rfl) rfl (fun k hk => by cases hk) fun ds r h => ?_
  unfold G85 at h
  split at h
  · rename_i v s q
    refine (t85 v s q).trans ?_
    rw [← h]
    rfl
  · cases h
theorem ok86 (n : Nat) : FnOK C (n + 1) 86 (mkF s86 G86) := by
  refine fn_ofS hC (sp := sp86) (lp := lp86) (sw := sw86) trivial trivial (by kernel_rfl) [] (by kernel_rfl) rfl (fun k hk => by cases hk) fun ds r h => ?_
  unfold G86 at h
  split at h
  · rename_i v s q t p0 p1 p2 p3 p4 p5 ov os oh cv cs ch rd po ca
    obtain ⟨hp, h⟩ := need_some h
    rw [yes_iff] at hp
    refine (t86 v s q t p0 p1 p2 p3 p4 p5 ov os oh cv cs ch rd po ca).trans ?_
    rw [← h]
    unfold tOK at hp
    rw [wrap_id (by omega) (by omega)]
    have e : silR t.I p1.I (mk3b v s q) = (!q.B || decide (t.I - s.I > p1.I)) := rfl
    rw [e]
    refine go_not (fun c => by rw [c]; rfl) fun c => by rw [c]; rfl
  · cases h
theorem ok88 (n : Nat) : FnOK C (n + 1) 88 (mkF s88 G88) := by
  refine fn_ofS hC (sp := sp88) (lp := lp88) (sw := sw88) trivial trivial (by kernel_rfl) [] (by kernel_rfl) rfl (fun k hk => by cases hk) fun ds r h => ?_
  unfold G88 at h
  split at h
  · rename_i a b c d e p0 p1 p2 p3 p4 p5 ov os oh cv cs ch rd po ca
    obtain ⟨hp, h⟩ := need_some h
    rw [yes_iff] at hp
    refine (t88 a b c d e p0 p1 p2 p3 p4 p5 ov os oh cv cs ch rd po ca).trans ?_
    rw [← h]
    unfold okPl at hp
    rw [wrap_id (by omega) (by omega)]
    have e1 : befR p2.I (mk5c a b c d e) = (!d.B && decide (c.I < p2.I - 1)) := rfl
    rw [e1]
    refine go_not (fun k => by rw [k]; rfl) fun k => by rw [k]; rfl
  · cases h
theorem ok89 (n : Nat) : FnOK C (n + 1) 89 (mkF s89 G89) := by
  refine fn_ofS hC (sp := sp89) (lp := lp89) (sw := sw89) trivial trivial (by kernel_rfl) [] (by kernel_rfl) rfl (fun k hk => by cases hk) fun ds r h => ?_
  unfold G89 at h
  split at h
  · rename_i a b c d e p0 p1 p2 p3 p4 p5 ov os oh cv cs ch rd po ca t
    obtain ⟨hp, h⟩ := need_some h
    rw [yes_iff] at hp
    refine (t89 a b c d e p0 p1 p2 p3 p4 p5 ov os oh cv cs ch rd po ca t).trans ?_
    rw [← h]
    unfold okPl tOK at hp
    rw [wrap_id (x := p0.I - 1) (by omega) (by omega), wrap_id (by omega) (by omega)]
    have e1 : misR p0.I p4.I t.I (mk5c a b c d e) = ((!d.B && !e.B) && (decide (c.I < p0.I - 1) && decide (t.I - b.I > p4.I))) := rfl
    rw [e1]
    refine go_not (fun k => go_not (fun k2 => go_if (fun k3 => by rw [k, k2, decide_eq_true k3]; rfl) fun k3 => by rw [decide_eq_false k3, Bool.false_and, Bool.and_false]) fun k2 => by rw [k2]; simp) fun k => by rw [k]; rfl
  · cases h
theorem ok90 (n : Nat) : FnOK C (n + 1) 90 (mkF s90 G90) := by
  refine fn_ofS hC (sp := sp90) (lp := lp90) (sw := sw90) trivial trivial (by kernel_rfl) [] (by kernel_rfl) rfl (fun k hk => by cases hk) fun ds r h => ?_
  unfold G90 at h
  split at h
  · rename_i a b c d e t p0 p1 p2 p3 p4 p5 ov os oh cv cs ch rd po ca
    obtain ⟨hp, h⟩ := need_some h
    rw [yes_iff] at hp
    refine (t90 a b c d e t p0 p1 p2 p3 p4 p5 ov os oh cv cs ch rd po ca).trans ?_
    rw [← h]
    unfold okPl tOK at hp
    rw [wrap_id (by omega) (by omega)]
    rfl
  · cases h
theorem ok92 (n : Nat) : FnOK C (n + 1) 92 (mkF s92 G92) := by
  refine fn_ofS hC (sp := sp92) (lp := lp92) (sw := sw92) trivial trivial (by kernel_rfl) [] (by kernel_rfl) rfl (fun k hk => by cases hk) fun ds r h => ?_
  unfold G92 at h
  split at h
  · rename_i a b c d e
    refine (t92 a b c d e).trans ?_
    rw [← h]
    rfl
  · cases h
theorem ok1099 (n : Nat) : FnOK C (n + 2) 99 (mkF s1099 G1099) := by
  refine fn_ofS hC (sp := sp1099) (lp := lp1099) (sw := sw1099) ⟨ok88 n, trivial⟩ trivial (by kernel_rfl) [] (by kernel_rfl) rfl (fun k hk => by cases hk) fun ds r h => ?_
  unfold G1099 at h
  split at h
  · rename_i a b c d e p0 p1 p2 p3 p4 p5 ov os oh cv cs ch rd po ca
    obtain ⟨hp, h⟩ := need_some h
    rw [yes_iff] at hp
    refine (t1099 a b c d e p0 p1 p2 p3 p4 p5 ov os oh cv cs ch rd po ca).trans ?_
    rw [← h]
    have e1 : both (befR p2.I) (mk5c a b c d e) = (a.B && (befR p2.I) (mk5c a b c d e)) := rfl
    rw [e1]
    exact go_ite (fun k => go_yes hp (by rw [k]; rfl)) fun k => by rw [k]; rfl
  · cases h
theorem ok2099 (n : Nat) : FnOK C (n + 2) 99 (mkF s2099 G2099) := by
  refine fn_ofS hC (sp := sp2099) (lp := lp2099) (sw := sw2099) ⟨ok89 n, trivial⟩ trivial (by kernel_rfl) [] (by kernel_rfl) rfl (fun k hk => by cases hk) fun ds r h => ?_
  unfold G2099 at h
  split at h
  · rename_i a b c d e p0 p1 p2 p3 p4 p5 ov os oh cv cs ch rd po ca t
    obtain ⟨hp, h⟩ := need_some h
    rw [yes_iff] at hp
    refine (t2099 a b c d e p0 p1 p2 p3 p4 p5 ov os oh cv cs ch rd po ca t).trans ?_
    rw [← h]
    have e1 : both (misR p0.I p4.I t.I) (mk5c a b c d e) = (a.B && (misR p0.I p4.I t.I) (mk5c a b c d e)) := rfl
    rw [e1]
    exact go_ite (fun k => go_yes hp (by rw [k]; rfl)) fun k => by rw [k]; rfl
  · cases h
theorem ok3099 (n : Nat) : FnOK C (n + 2) 99 (mkF s3099 G3099) := by
  refine fn_ofS hC (sp := sp3099) (lp := lp3099) (sw := sw3099) ⟨ok90 n, trivial⟩ trivial (by kernel_rfl) [] (by kernel_rfl) rfl (fun k hk => by cases hk) fun ds r h => ?_
  unfold G3099 at h
  split at h
  · rename_i a b c d e t p0 p1 p2 p3 p4 p5 ov os oh cv cs ch rd po ca
    obtain ⟨hp, h⟩ := need_some h
    rw [yes_iff] at hp
    refine (t3099 a b c d e t p0 p1 p2 p3 p4 p5 ov os oh cv cs ch rd po ca).trans ?_
    rw [← h]
    have e1 : both (intR p3.I t.I) (mk5c a b c d e) = (a.B && (intR p3.I t.I) (mk5c a b c d e)) := rfl
    rw [e1]
    exact go_ite (fun k => go_yes hp (by rw [k]; rfl)) fun k => by rw [k]; rfl
  · cases h
theorem ok1098_2 (n : Nat) : LoopSim C (n + 1) 98 (loopOf C.P 98 2) (mkL l1098_2 G1098_2) := by
  refine loop_ofK hC (sp := sp1098) (lp := lp1098) (sw := sw1098) ⟨ok85 n, trivial⟩ trivial 0 [] (by kernel_rfl) rfl (fun k hk => by cases hk) (by kernel_rfl) (fun ds => ((ds.getD 1 default).I - (ds.getD 2 default).I).toNat) fun ds rr h => ?_
  unfold G1098_2 at h
  split at h
  · rename_i l  m i
    obtain ⟨hp, h⟩ := need_some h
    rw [yes_iff] at hp
    obtain ⟨hl, hm, hi0, hi1⟩ := hp
    have hb := big_eq
    refine ⟨by rw [fuelC]; simp; omega, ?_⟩
    rw [show (roundTK C (mkTab sp1098 lp1098 sw1098) 98 (loopOf C.P 98 2) 0 l1098_2 [l, m, i]).run = _ from t1098_2 l  m i]
    obtain ⟨k, hk⟩ : ∃ k : Nat, i.I = k := ⟨i.I.toNat, by omega⟩
    simp only [hk, hm, Int.toNat_natCast, Nat.reduceAdd, ix_def, bx_def, red_row] at h hi0 hi1 ⊢
    refine rd_if (fun hlt => ?_) fun hge => rd_out (first_end h (by omega))
    obtain ⟨s1, s2⟩ := first_step h (by omega : k < l.L.length)
    refine rd_dec (by omega) (rd_ite (fun c => rd_out (s1 c)) fun c => ?_)
    rw [wrap_succ (by omega)]
    exact rd_again ((need_yes ⟨hl, rfl, by simp only [I_i]; omega, by simp only [I_i, L_l]; omega⟩).trans (s2 c)) (show ((l.L.length : Int) - ((k + 1 : Nat) : Int)).toNat < (m.I - i.I).toNat by omega)
  · cases h
theorem ok1098 (n : Nat) : FnOK C (n + 2) 98 (mkF s1098 G1098) := by
  refine fn_ofS hC (sp := sp1098) (lp := lp1098) (sw := sw1098) ⟨ok85 n, trivial⟩ trivial (by kernel_rfl) [2] (by kernel_rfl) (by kernel_rfl) (fun k hk L hL => by simp at hk; subst hk; cases hL; exact ok1098_2 n) fun ds r h => ?_
  unfold G1098 at h
  split at h
  · rename_i l
    obtain ⟨hp, h⟩ := need_some h
    rw [yes_iff] at hp
    refine (t1098 l).trans ?_
    rw [← h]
    simp only [Int.toNat_zero, Nat.sub_zero]
    refine go_yes ⟨hp, by first | trivial | rfl, by omega, by omega⟩ (go_if (fun c => rfl) fun c => ?_)
    rw [fst_end c]
  · cases h
theorem ok1084 (n : Nat) : FnOK C (n + 3) 84 (mkF s1084 G1084) := by
  refine fn_ofS hC (sp := sp1084) (lp := lp1084) (sw := sw1084) ⟨ok1098 n, ok85 (n + 1), trivial⟩ trivial (by kernel_rfl) [] (by kernel_rfl) rfl (fun k hk => by cases hk) fun ds r h => ?_
  unfold G1084 at h
  split at h
  · rename_i l
    obtain ⟨hp, h⟩ := need_some h
    rw [yes_iff] at hp
    refine (t1084 l).trans ?_
    rw [← h]
    refine go_yes hp ?_
    rw [fst_all]
  · cases h
theorem ok2098_2 (n : Nat) : LoopSim C (n + 1) 98 (loopOf C.P 98 2) (mkL l2098_2 G2098_2) := by
  refine loop_ofK hC (sp := sp2098) (lp := lp2098) (sw := sw2098) ⟨ok86 n, trivial⟩ trivial 0 [] (by kernel_rfl) rfl (fun k hk => by cases hk) (by kernel_rfl) (fun ds => ((ds.getD 17 default).I - (ds.getD 18 default).I).toNat) fun ds rr h => ?_
  unfold G2098_2 at h
  split at h
  · rename_i l t p0 p1 p2 p3 p4 p5 ov os oh cv cs ch rd po ca m i
    obtain ⟨hp, h⟩ := need_some h
    rw [yes_iff] at hp
    obtain ⟨hl, hlo, ht, hm, hi0, hi1⟩ := hp
    have hb := big_eq
    refine ⟨by rw [fuelC]; simp; omega, ?_⟩
    rw [show (roundTK C (mkTab sp2098 lp2098 sw2098) 98 (loopOf C.P 98 2) 0 l2098_2 [l, t, p0, p1, p2, p3, p4, p5, ov, os, oh, cv, cs, ch, rd, po, ca, m, i]).run = _ from t2098_2 l t p0 p1 p2 p3 p4 p5 ov os oh cv cs ch rd po ca m i]
    obtain ⟨k, hk⟩ : ∃ k : Nat, i.I = k := ⟨i.I.toNat, by omega⟩
    simp only [hk, hm, Int.toNat_natCast, Nat.reduceAdd, ix_def, bx_def, sil_row] at h hi0 hi1 ⊢
    refine rd_if (fun hlt => ?_) fun hge => rd_out (first_end h (by omega))
    obtain ⟨s1, s2⟩ := first_step h (by omega : k < l.L.length)
    refine rd_dec (by omega) (rd_yes ⟨⟨(hlo k (by omega)).1, (hlo k (by omega)).2⟩, ht⟩ (rd_ite (fun c => rd_out (s1 c)) fun c => ?_))
    rw [wrap_succ (by omega)]
    exact rd_again ((need_yes ⟨hl, hlo, ht, rfl, by simp only [I_i]; omega, by simp only [I_i, L_l]; omega⟩).trans (s2 c)) (show ((l.L.length : Int) - ((k + 1 : Nat) : Int)).toNat < (m.I - i.I).toNat by omega)
  · cases h
theorem ok2098 (n : Nat) : FnOK C (n + 2) 98 (mkF s2098 G2098) := by
  refine fn_ofS hC (sp := sp2098) (lp := lp2098) (sw := sw2098) ⟨ok86 n, trivial⟩ trivial (by kernel_rfl) [2] (by kernel_rfl) (by kernel_rfl) (fun k hk L hL => by simp at hk; subst hk; cases hL; exact ok2098_2 n) fun ds r h => ?_
  unfold G2098 at h
  split at h
  · rename_i l t p0 p1 p2 p3 p4 p5 ov os oh cv cs ch rd po ca
    obtain ⟨hp, h⟩ := need_some h
    rw [yes_iff] at hp
    refine (t2098 l t p0 p1 p2 p3 p4 p5 ov os oh cv cs ch rd po ca).trans ?_
    rw [← h]
    simp only [Int.toNat_zero, Nat.sub_zero]
    refine go_yes ⟨hp.1, hp.2.1, hp.2.2, by first | trivial | rfl, by omega, by omega⟩ (go_if (fun c => rfl) fun c => ?_)
    rw [fst_end c]
  · cases h
theorem ok2084 (n : Nat) : FnOK C (n + 3) 84 (mkF s2084 G2084) := by
  refine fn_ofS hC (sp := sp2084) (lp := lp2084) (sw := sw2084) ⟨ok2098 n, ok86 (n + 1), trivial⟩ trivial (by kernel_rfl) [] (by kernel_rfl) rfl (fun k hk => by cases hk) fun ds r h => ?_
  unfold G2084 at h
  split at h
  · rename_i l t p0 p1 p2 p3 p4 p5 ov os oh cv cs ch rd po ca
    obtain ⟨hp, h⟩ := need_some h
    rw [yes_iff] at hp
    refine (t2084 l t p0 p1 p2 p3 p4 p5 ov os oh cv cs ch rd po ca).trans ?_
    rw [← h]
    refine go_yes hp ?_
    rw [fst_all]
  · cases h
theorem ok1100_2 (n : Nat) : LoopSim C (n + 1) 100 (loopOf C.P 100 2) (mkL l1100_2 G1100_2) := by
  refine loop_ofK hC (sp := sp1100) (lp := lp1100) (sw := sw1100) ⟨ok92 n, trivial⟩ trivial 0 [] (by kernel_rfl) rfl (fun k hk => by cases hk) (by kernel_rfl) (fun ds => ((ds.getD 1 default).I - (ds.getD 2 default).I).toNat) fun ds rr h => ?_
  unfold G1100_2 at h
  split at h
  · rename_i l  m i
    obtain ⟨hp, h⟩ := need_some h
    rw [yes_iff] at hp
    obtain ⟨hl, hm, hi0, hi1⟩ := hp
    have hb := big_eq
    refine ⟨by rw [fuelC]; simp; omega, ?_⟩
    rw [show (roundTK C (mkTab sp1100 lp1100 sw1100) 100 (loopOf C.P 100 2) 0 l1100_2 [l, m, i]).run = _ from t1100_2 l  m i]
    obtain ⟨k, hk⟩ : ∃ k : Nat, i.I = k := ⟨i.I.toNat, by omega⟩
    simp only [hk, hm, Int.toNat_natCast, Nat.reduceAdd, ix_def, bx_def, st_row] at h hi0 hi1 ⊢
    refine rd_if (fun hlt => ?_) fun hge => rd_out (first_end h (by omega))
    obtain ⟨s1, s2⟩ := first_step h (by omega : k < l.L.length)
    refine rd_dec (by omega) (rd_ite (fun c => rd_out (s1 c)) fun c => ?_)
    rw [wrap_succ (by omega)]
    exact rd_again ((need_yes ⟨hl, rfl, by simp only [I_i]; omega, by simp only [I_i, L_l]; omega⟩).trans (s2 c)) (show ((l.L.length : Int) - ((k + 1 : Nat) : Int)).toNat < (m.I - i.I).toNat by omega)
  · cases h
theorem ok1100 (n : Nat) : FnOK C (n + 2) 100 (mkF s1100 G1100) := by
  refine fn_ofS hC (sp := sp1100) (lp := lp1100) (sw := sw1100) ⟨ok92 n, trivial⟩ trivial (by kernel_rfl) [2] (by kernel_rfl) (by kernel_rfl) (fun k hk L hL => by simp at hk; subst hk; cases hL; exact ok1100_2 n) fun ds r h => ?_
  unfold G1100 at h
  split at h
  · rename_i l
    obtain ⟨hp, h⟩ := need_some h
    rw [yes_iff] at hp
    refine (t1100 l).trans ?_
    rw [← h]
    simp only [Int.toNat_zero, Nat.sub_zero]
    refine go_yes ⟨hp, by first | trivial | rfl, by omega, by omega⟩ (go_if (fun c => rfl) fun c => ?_)
    rw [fst_end c]
  · cases h
theorem ok1091 (n : Nat) : FnOK C (n + 3) 91 (mkF s1091 G1091) := by
  refine fn_ofS hC (sp := sp1091) (lp := lp1091) (sw := sw1091) ⟨ok1100 n, ok92 (n + 1), trivial⟩ trivial (by kernel_rfl) [] (by kernel_rfl) rfl (fun k hk => by cases hk) fun ds r h => ?_
  unfold G1091 at h
  split at h
  · rename_i l
    obtain ⟨hp, h⟩ := need_some h
    rw [yes_iff] at hp
    refine (t1091 l).trans ?_
    rw [← h]
    refine go_yes hp ?_
    rw [fst_all]
  · cases h
theorem ok2100_2 (n : Nat) : LoopSim C (n + 2) 100 (loopOf C.P 100 2) (mkL l2100_2 G2100_2) := by
  refine loop_ofK hC (sp := sp2100) (lp := lp2100) (sw := sw2100) ⟨ok1099 n, ok88 (n + 1), trivial⟩ trivial 0 [] (by kernel_rfl) rfl (fun k hk => by cases hk) (by kernel_rfl) (fun ds => ((ds.getD 16 default).I - (ds.getD 17 default).I).toNat) fun ds rr h => ?_
  unfold G2100_2 at h
  split at h
  · rename_i l p0 p1 p2 p3 p4 p5 ov os oh cv cs ch rd po ca m i
    obtain ⟨hp, h⟩ := need_some h
    rw [yes_iff] at hp
    obtain ⟨hl, hpl, hm, hi0, hi1⟩ := hp
    have hb := big_eq
    refine ⟨by rw [fuelC]; simp; omega, ?_⟩
    rw [show (roundTK C (mkTab sp2100 lp2100 sw2100) 100 (loopOf C.P 100 2) 0 l2100_2 [l, p0, p1, p2, p3, p4, p5, ov, os, oh, cv, cs, ch, rd, po, ca, m, i]).run = _ from t2100_2 l p0 p1 p2 p3 p4 p5 ov os oh cv cs ch rd po ca m i]
    obtain ⟨k, hk⟩ : ∃ k : Nat, i.I = k := ⟨i.I.toNat, by omega⟩
    simp only [hk, hm, Int.toNat_natCast, Nat.reduceAdd, ix_def, bx_def, bef_row] at h hi0 hi1 ⊢
    refine rd_if (fun hlt => ?_) fun hge => rd_out (first_end h (by omega))
    obtain ⟨s1, s2⟩ := first_step h (by omega : k < l.L.length)
    refine rd_dec (by omega) (rd_yes hpl (rd_ite (fun c => rd_out (s1 c)) fun c => ?_))
    rw [wrap_succ (by omega)]
    exact rd_again ((need_yes ⟨hl, hpl, rfl, by simp only [I_i]; omega, by simp only [I_i, L_l]; omega⟩).trans (s2 c)) (show ((l.L.length : Int) - ((k + 1 : Nat) : Int)).toNat < (m.I - i.I).toNat by omega)
  · cases h
theorem ok2100 (n : Nat) : FnOK C (n + 3) 100 (mkF s2100 G2100) := by
  refine fn_ofS hC (sp := sp2100) (lp := lp2100) (sw := sw2100) ⟨ok1099 n, ok88 (n + 1), trivial⟩ trivial (by kernel_rfl) [2] (by kernel_rfl) (by kernel_rfl) (fun k hk L hL => by simp at hk; subst hk; cases hL; exact ok2100_2 n) fun ds r h => ?_
  unfold G2100 at h
  split at h
  · rename_i l p0 p1 p2 p3 p4 p5 ov os oh cv cs ch rd po ca
    obtain ⟨hp, h⟩ := need_some h
    rw [yes_iff] at hp
    refine (t2100 l p0 p1 p2 p3 p4 p5 ov os oh cv cs ch rd po ca).trans ?_
    rw [← h]
    simp only [Int.toNat_zero, Nat.sub_zero]
    refine go_yes ⟨hp.1, hp.2, by first | trivial | rfl, by omega, by omega⟩ (go_if (fun c => rfl) fun c => ?_)
    rw [fst_end c]
  · cases h
theorem ok2091 (n : Nat) : FnOK C (n + 4) 91 (mkF s2091 G2091) := by
  refine fn_ofS hC (sp := sp2091) (lp := lp2091) (sw := sw2091) ⟨ok2100 n, ok1099 (n + 1), ok88 (n + 2), trivial⟩ trivial (by kernel_rfl) [] (by kernel_rfl) rfl (fun k hk => by cases hk) fun ds r h => ?_
  unfold G2091 at h
  split at h
  · rename_i l p0 p1 p2 p3 p4 p5 ov os oh cv cs ch rd po ca
    obtain ⟨hp, h⟩ := need_some h
    rw [yes_iff] at hp
    refine (t2091 l p0 p1 p2 p3 p4 p5 ov os oh cv cs ch rd po ca).trans ?_
    rw [← h]
    refine go_yes hp ?_
    rw [fst_all]
  · cases h
theorem ok3100_2 (n : Nat) : LoopSim C (n + 2) 100 (loopOf C.P 100 2) (mkL l3100_2 G3100_2) := by
  refine loop_ofK hC (sp := sp3100) (lp := lp3100) (sw := sw3100) ⟨ok2099 n, ok89 (n + 1), trivial⟩ trivial 0 [] (by kernel_rfl) rfl (fun k hk => by cases hk) (by kernel_rfl) (fun ds => ((ds.getD 17 default).I - (ds.getD 18 default).I).toNat) fun ds rr h => ?_
  unfold G3100_2 at h
  split at h
  · rename_i l p0 p1 p2 p3 p4 p5 ov os oh cv cs ch rd po ca t m i
    obtain ⟨hp, h⟩ := need_some h
    rw [yes_iff] at hp
    obtain ⟨hl, hpl, hca, ht, hm, hi0, hi1⟩ := hp
    have hb := big_eq
    refine ⟨by rw [fuelC]; simp; omega, ?_⟩
    rw [show (roundTK C (mkTab sp3100 lp3100 sw3100) 100 (loopOf C.P 100 2) 0 l3100_2 [l, p0, p1, p2, p3, p4, p5, ov, os, oh, cv, cs, ch, rd, po, ca, t, m, i]).run = _ from t3100_2 l p0 p1 p2 p3 p4 p5 ov os oh cv cs ch rd po ca t m i]
    obtain ⟨k, hk⟩ : ∃ k : Nat, i.I = k := ⟨i.I.toNat, by omega⟩
    simp only [hk, hm, Int.toNat_natCast, Nat.reduceAdd, ix_def, bx_def, mis_row] at h hi0 hi1 ⊢
    refine rd_if (fun hlt => ?_) fun hge => rd_out (first_end h (by omega))
    obtain ⟨s1, s2⟩ := first_step h (by omega : k < l.L.length)
    refine rd_dec (by omega) (rd_yes ⟨hpl, (hca k (by omega)).1, ht⟩ (rd_ite (fun c => rd_out (s1 c)) fun c => ?_))
    rw [wrap_succ (by omega)]
    exact rd_again ((need_yes ⟨hl, hpl, hca, ht, rfl, by simp only [I_i]; omega, by simp only [I_i, L_l]; omega⟩).trans (s2 c)) (show ((l.L.length : Int) - ((k + 1 : Nat) : Int)).toNat < (m.I - i.I).toNat by omega)
  · cases h
theorem ok3100 (n : Nat) : FnOK C (n + 3) 100 (mkF s3100 G3100) := by
  refine fn_ofS hC (sp := sp3100) (lp := lp3100) (sw := sw3100) ⟨ok2099 n, ok89 (n + 1), trivial⟩ trivial (by kernel_rfl) [2] (by kernel_rfl) (by kernel_rfl) (fun k hk L hL => by simp at hk; subst hk; cases hL; exact ok3100_2 n) fun ds r h => ?_
  unfold G3100 at h
  split at h
  · rename_i l p0 p1 p2 p3 p4 p5 ov os oh cv cs ch rd po ca t
    obtain ⟨hp, h⟩ := need_some h
    rw [yes_iff] at hp
    refine (t3100 l p0 p1 p2 p3 p4 p5 ov os oh cv cs ch rd po ca t).trans ?_
    rw [← h]
    simp only [Int.toNat_zero, Nat.sub_zero]
    refine go_yes ⟨hp.1, hp.2.1, hp.2.2.1, hp.2.2.2, by first | trivial | rfl, by omega, by omega⟩ (go_if (fun c => rfl) fun c => ?_)
    rw [fst_end c]
  · cases h
theorem ok3091 (n : Nat) : FnOK C (n + 4) 91 (mkF s3091 G3091) := by
  refine fn_ofS hC (sp := sp3091) (lp := lp3091) (sw := sw3091) ⟨ok3100 n, ok2099 (n + 1), ok89 (n + 2), trivial⟩ trivial (by kernel_rfl) [] (by kernel_rfl) rfl (fun k hk => by cases hk) fun ds r h => ?_
  unfold G3091 at h
  split at h
  · rename_i l p0 p1 p2 p3 p4 p5 ov os oh cv cs ch rd po ca t
    obtain ⟨hp, h⟩ := need_some h
    rw [yes_iff] at hp
    refine (t3091 l p0 p1 p2 p3 p4 p5 ov os oh cv cs ch rd po ca t).trans ?_
    rw [← h]
    refine go_yes hp ?_
    rw [fst_all]
  · cases h
theorem ok4100_2 (n : Nat) : LoopSim C (n + 2) 100 (loopOf C.P 100 2) (mkL l4100_2 G4100_2) := by
  refine loop_ofK hC (sp := sp4100) (lp := lp4100) (sw := sw4100) ⟨ok3099 n, ok90 (n + 1), trivial⟩ trivial 0 [] (by kernel_rfl) rfl (fun k hk => by cases hk) (by kernel_rfl) (fun ds => ((ds.getD 17 default).I - (ds.getD 18 default).I).toNat) fun ds rr h => ?_
  unfold G4100_2 at h
  split at h
  · rename_i l t p0 p1 p2 p3 p4 p5 ov os oh cv cs ch rd po ca m i
    obtain ⟨hp, h⟩ := need_some h
    rw [yes_iff] at hp
    obtain ⟨hl, hpl, hca, ht, hm, hi0, hi1⟩ := hp
    have hb := big_eq
    refine ⟨by rw [fuelC]; simp; omega, ?_⟩
    rw [show (roundTK C (mkTab sp4100 lp4100 sw4100) 100 (loopOf C.P 100 2) 0 l4100_2 [l, t, p0, p1, p2, p3, p4, p5, ov, os, oh, cv, cs, ch, rd, po, ca, m, i]).run = _ from t4100_2 l t p0 p1 p2 p3 p4 p5 ov os oh cv cs ch rd po ca m i]
    obtain ⟨k, hk⟩ : ∃ k : Nat, i.I = k := ⟨i.I.toNat, by omega⟩
    simp only [hk, hm, Int.toNat_natCast, Nat.reduceAdd, ix_def, bx_def, int_row] at h hi0 hi1 ⊢
    refine rd_if (fun hlt => ?_) fun hge => rd_out (first_end h (by omega))
    obtain ⟨s1, s2⟩ := first_step h (by omega : k < l.L.length)
    refine rd_dec (by omega) (rd_yes ⟨hpl, ht⟩ (rd_ite (fun c => rd_out (s1 c)) fun c => ?_))
    rw [wrap_succ (by omega)]
    exact rd_again ((need_yes ⟨hl, hpl, hca, ht, rfl, by simp only [I_i]; omega, by simp only [I_i, L_l]; omega⟩).trans (s2 c)) (show ((l.L.length : Int) - ((k + 1 : Nat) : Int)).toNat < (m.I - i.I).toNat by omega)
  · cases h
theorem ok4100 (n : Nat) : FnOK C (n + 3) 100 (mkF s4100 G4100) := by
  refine fn_ofS hC (sp := sp4100) (lp := lp4100) (sw := sw4100) ⟨ok3099 n, ok90 (n + 1), trivial⟩ trivial (by kernel_rfl) [2] (by kernel_rfl) (by kernel_rfl) (fun k hk L hL => by simp at hk; subst hk; cases hL; exact ok4100_2 n) fun ds r h => ?_
  unfold G4100 at h
  split at h
  · rename_i l t p0 p1 p2 p3 p4 p5 ov os oh cv cs ch rd po ca
    obtain ⟨hp, h⟩ := need_some h
    rw [yes_iff] at hp
    refine (t4100 l t p0 p1 p2 p3 p4 p5 ov os oh cv cs ch rd po ca).trans ?_
    rw [← h]
    simp only [Int.toNat_zero, Nat.sub_zero]
    refine go_yes ⟨hp.1, hp.2.1, hp.2.2.1, hp.2.2.2, by first | trivial | rfl, by omega, by omega⟩ (go_if (fun c => rfl) fun c => ?_)
    rw [fst_end c]
  · cases h
theorem ok4091 (n : Nat) : FnOK C (n + 4) 91 (mkF s4091 G4091) := by
  refine fn_ofS hC (sp := sp4091) (lp := lp4091) (sw := sw4091) ⟨ok4100 n, ok3099 (n + 1), ok90 (n + 2), trivial⟩ trivial (by kernel_rfl) [] (by kernel_rfl) rfl (fun k hk => by cases hk) fun ds r h => ?_
  unfold G4091 at h
  split at h
  · rename_i l t p0 p1 p2 p3 p4 p5 ov os oh cv cs ch rd po ca
    obtain ⟨hp, h⟩ := need_some h
    rw [yes_iff] at hp
    refine (t4091 l t p0 p1 p2 p3 p4 p5 ov os oh cv cs ch rd po ca).trans ?_
    rw [← h]
    refine go_yes hp ?_
    rw [fst_all]
  · cases h
theorem ok1087 (n : Nat) : FnOK C (n + 5) 87 (mkF s1087 G1087) := by
  refine fn_ofS hC (sp := sp1087) (lp := lp1087) (sw := sw1087) ⟨ok2091 n, ok88 (n + 3), ok1099 (n + 2), trivial⟩ trivial (by kernel_rfl) [] (by kernel_rfl) rfl (fun k hk => by cases hk) fun ds r h => ?_
  unfold G1087 at h
  split at h
  · rename_i p0 p1 p2 p3 p4 p5 ov os oh cv cs ch rd po ca q0 q1 q2 q3 q4 q5 x6 x7 x8 x9 x10 x11 x12 x13 x14
    obtain ⟨hp, h⟩ := need_some h
    rw [yes_iff] at hp
    refine (t1087 p0 p1 p2 p3 p4 p5 ov os oh cv cs ch rd po ca q0 q1 q2 q3 q4 q5 x6 x7 x8 x9 x10 x11 x12 x13 x14).trans ?_
    rw [← h]
    exact go_yes ⟨hp.2, hp.1⟩ rfl
  · cases h
theorem ok2087 (n : Nat) : FnOK C (n + 5) 87 (mkF s2087 G2087) := by
  refine fn_ofS hC (sp := sp2087) (lp := lp2087) (sw := sw2087) ⟨ok3091 n, ok89 (n + 3), ok2099 (n + 2), trivial⟩ trivial (by kernel_rfl) [] (by kernel_rfl) rfl (fun k hk => by cases hk) fun ds r h => ?_
  unfold G2087 at h
  split at h
  · rename_i p0 p1 p2 p3 p4 p5 ov os oh cv cs ch rd po ca q0 q1 q2 q3 q4 q5 x6 x7 x8 x9 x10 x11 x12 x13 x14 t
    obtain ⟨hp, h⟩ := need_some h
    rw [yes_iff] at hp
    refine (t2087 p0 p1 p2 p3 p4 p5 ov os oh cv cs ch rd po ca q0 q1 q2 q3 q4 q5 x6 x7 x8 x9 x10 x11 x12 x13 x14 t).trans ?_
    rw [← h]
    exact go_yes ⟨hp.2.1, hp.1, hp.2.2.1, hp.2.2.2⟩ rfl
  · cases h
theorem ok3087 (n : Nat) : FnOK C (n + 5) 87 (mkF s3087 G3087) := by
  refine fn_ofS hC (sp := sp3087) (lp := lp3087) (sw := sw3087) ⟨ok4091 n, ok90 (n + 3), ok3099 (n + 2), trivial⟩ trivial (by kernel_rfl) [] (by kernel_rfl) rfl (fun k hk => by cases hk) fun ds r h => ?_
  unfold G3087 at h
  split at h
  · rename_i p0 p1 p2 p3 p4 p5 ov os oh cv cs ch rd po ca t q0 q1 q2 q3 q4 q5 x6 x7 x8 x9 x10 x11 x12 x13 x14
    obtain ⟨hp, h⟩ := need_some h
    rw [yes_iff] at hp
    refine (t3087 p0 p1 p2 p3 p4 p5 ov os oh cv cs ch rd po ca t q0 q1 q2 q3 q4 q5 x6 x7 x8 x9 x10 x11 x12 x13 x14).trans ?_
    rw [← h]
    exact go_yes ⟨hp.2.1, hp.1, hp.2.2.1, hp.2.2.2⟩ rfl
  · cases h
theorem ok65 (n : Nat) : FnOK C (n + 1) 65 (mkF s65 G65) := by
  refine fn_ofS hC (sp := sp65) (lp := lp65) (sw := sw65) trivial trivial (by kernel_rfl) [] (by kernel_rfl) rfl (fun k hk => by cases hk) fun ds r h => ?_
  unfold G65 at h
  split at h
  · rename_i p0 p1 p2 p3 p4 p5 ov os oh cv cs ch rd po ca car t
    refine (t65 p0 p1 p2 p3 p4 p5 ov os oh cv cs ch rd po ca car t).trans ?_
    rw [← h]
  · cases h
theorem ok66 (n : Nat) : FnOK C (n + 4) 66 (mkF s66 G66) := by
  refine fn_ofS hC (sp := sp66) (lp := lp66) (sw := sw66) ⟨ok1084 n, trivial⟩ trivial (by kernel_rfl) [] (by kernel_rfl) rfl (fun k hk => by cases hk) fun ds r h => ?_
  unfold G66 at h
  split at h
  · rename_i p0 p1 p2 p3 p4 p5 ov os oh cv cs ch rd po ca car t
    obtain ⟨hp, h⟩ := need_some h
    rw [yes_iff] at hp
    refine (t66 p0 p1 p2 p3 p4 p5 ov os oh cv cs ch rd po ca car t).trans ?_
    rw [← h]
    exact go_yes hp rfl
  · cases h
theorem ok67 (n : Nat) : FnOK C (n + 4) 67 (mkF s67 G67) := by
  refine fn_ofS hC (sp := sp67) (lp := lp67) (sw := sw67) ⟨ok2084 n, ok86 (n + 2), trivial⟩ trivial (by kernel_rfl) [] (by kernel_rfl) rfl (fun k hk => by cases hk) fun ds r h => ?_
  unfold G67 at h
  split at h
  · rename_i p0 p1 p2 p3 p4 p5 ov os oh cv cs ch rd po ca car t
    obtain ⟨hp, h⟩ := need_some h
    rw [yes_iff] at hp
    refine (t67 p0 p1 p2 p3 p4 p5 ov os oh cv cs ch rd po ca car t).trans ?_
    rw [← h]
    exact go_yes hp rfl
  · cases h
theorem ok68 (n : Nat) : FnOK C (n + 1) 68 (mkF s68 G68) := by
  refine fn_ofS hC (sp := sp68) (lp := lp68) (sw := sw68) trivial trivial (by kernel_rfl) [] (by kernel_rfl) rfl (fun k hk => by cases hk) fun ds r h => ?_
  unfold G68 at h
  split at h
  · rename_i p0 p1 p2 p3 p4 p5 ov os oh cv cs ch rd po ca car t
    refine (t68 p0 p1 p2 p3 p4 p5 ov os oh cv cs ch rd po ca car t).trans ?_
    rw [← h]
  · cases h
theorem ok69 (n : Nat) : FnOK C (n + 6) 69 (mkF s69 G69) := by
  refine fn_ofS hC (sp := sp69) (lp := lp69) (sw := sw69) ⟨ok1087 n, ok88 (n + 4), trivial⟩ trivial (by kernel_rfl) [] (by kernel_rfl) rfl (fun k hk => by cases hk) fun ds r h => ?_
  unfold G69 at h
  split at h
  · rename_i p0 p1 p2 p3 p4 p5 ov os oh cv cs ch rd po ca car t
    obtain ⟨hp, h⟩ := need_some h
    rw [yes_iff] at hp
    refine (t69 p0 p1 p2 p3 p4 p5 ov os oh cv cs ch rd po ca car t).trans ?_
    rw [← h]
    exact go_yes hp rfl
  · cases h
theorem ok70 (n : Nat) : FnOK C (n + 6) 70 (mkF s70 G70) := by
  refine fn_ofS hC (sp := sp70) (lp := lp70) (sw := sw70) ⟨ok2087 n, ok89 (n + 4), trivial⟩ trivial (by kernel_rfl) [] (by kernel_rfl) rfl (fun k hk => by cases hk) fun ds r h => ?_
  unfold G70 at h
  split at h
  · rename_i p0 p1 p2 p3 p4 p5 ov os oh cv cs ch rd po ca car t
    obtain ⟨hp, h⟩ := need_some h
    rw [yes_iff] at hp
    refine (t70 p0 p1 p2 p3 p4 p5 ov os oh cv cs ch rd po ca car t).trans ?_
    rw [← h]
    exact go_yes hp rfl
  · cases h
theorem ok71 (n : Nat) : FnOK C (n + 6) 71 (mkF s71 G71) := by
  refine fn_ofS hC (sp := sp71) (lp := lp71) (sw := sw71) ⟨ok3087 n, ok90 (n + 4), trivial⟩ trivial (by kernel_rfl) [] (by kernel_rfl) rfl (fun k hk => by cases hk) fun ds r h => ?_
  unfold G71 at h
  split at h
  · rename_i p0 p1 p2 p3 p4 p5 ov os oh cv cs ch rd po ca car t
    obtain ⟨hp, h⟩ := need_some h
    rw [yes_iff] at hp
    refine (t71 p0 p1 p2 p3 p4 p5 ov os oh cv cs ch rd po ca car t).trans ?_
    rw [← h]
    exact go_yes hp rfl
  · cases h
theorem ok72 (n : Nat) : FnOK C (n + 4) 72 (mkF s72 G72) := by
  refine fn_ofS hC (sp := sp72) (lp := lp72) (sw := sw72) ⟨ok1091 n, trivial⟩ trivial (by kernel_rfl) [] (by kernel_rfl) rfl (fun k hk => by cases hk) fun ds r h => ?_
  unfold G72 at h
  split at h
  · rename_i p0 p1 p2 p3 p4 p5 ov os oh cv cs ch rd po ca car t
    obtain ⟨hp, h⟩ := need_some h
    rw [yes_iff] at hp
    refine (t72 p0 p1 p2 p3 p4 p5 ov os oh cv cs ch rd po ca car t).trans ?_
    rw [← h]
    have e : List.take (ca.L.length - car.I.toNat) (List.drop car.I.toNat ca.L) = List.drop car.I.toNat ca.L := List.take_of_length_le (by simp)
    rw [e]
    exact go_dec ⟨hp.2.1, hp.2.2⟩ (go_yes (by rw [List.length_drop]; omega) rfl)
  · cases h
end Go.Proofs.Ytgmefblkmidglaa
namespace Go.Proofs.Ytgmefblkmidglaa
open Go.Lite
set_option maxRecDepth 100000
set_option linter.unusedVariables false
theorem set_get {l : List (List D)} {k : Nat} (h : k < l.length) (a : List D) : (l.set k a).getD k [] = a := by
  rw [List.getD_eq_getElem?_getD, List.getElem?_set_self h]
  rfl
section
variable (c : List D) (x : D)
theorem u3_0 : updC c [x] (0 + 0) 0 (List.length [K.bool, K.int .i64, K.bool]) = [x, c.getD 1 default, c.getD 2 default] := by simp [updC]
theorem u3_1 : updC c [x] 1 0 (List.length [K.bool, K.int .i64, K.bool]) = [c.getD 0 default, x, c.getD 2 default] := by simp [updC]
theorem u3_2 : updC c [x] (0 + 2) 0 (List.length [K.bool, K.int .i64, K.bool]) = [c.getD 0 default, c.getD 1 default, x] := by simp [updC]
theorem u5_2 : updC c [x] (0 + 2) 0 (List.length [K.bool, K.int .i64, K.int .i64, K.bool, K.bool]) = [c.getD 0 default, c.getD 1 default, x, c.getD 3 default, c.getD 4 default] := by simp [updC]
theorem u5_3 : updC c [x] (0 + 3) 0 (List.length [K.bool, K.int .i64, K.int .i64, K.bool, K.bool]) = [c.getD 0 default, c.getD 1 default, c.getD 2 default, x, c.getD 4 default] := by simp [updC]
theorem u5_4 : updC c [x] (0 + 4) 0 (List.length [K.bool, K.int .i64, K.int .i64, K.bool, K.bool]) = [c.getD 0 default, c.getD 1 default, c.getD 2 default, c.getD 3 default, x] := by simp [updC]
end
theorem mx_def (a b : Int) : (if b > a then b else a) = mxI a b := rfl
theorem new_t1 {h : Bool} {s0 : Int} {v bad : Bool} {s : Int} (c : (!h) = true) : newB h s0 v bad s = true := by unfold newB; rw [c]; rfl
theorem new_t2 {h : Bool} {s0 : Int} {v bad : Bool} {s : Int} (c : s > s0) : newB h s0 v bad s = true := by unfold newB; rw [decide_eq_true c]; simp
theorem new_t3 {h : Bool} {s0 : Int} {v bad : Bool} {s : Int} (c : (s == s0) = true) (d : (v == bad) = true) : newB h s0 v bad s = true := by unfold newB; rw [c, d]; simp
theorem new_f1 {h : Bool} {s0 : Int} {v bad : Bool} {s : Int} (a : (!h) = false) (b : ¬ s > s0) (c : (s == s0) = true) (d : (v == bad) = false) : newB h s0 v bad s = false := by unfold newB; rw [a, decide_eq_false b, c, d]; rfl
theorem new_f2 {h : Bool} {s0 : Int} {v bad : Bool} {s : Int} (a : (!h) = false) (b : ¬ s > s0) (c : (s == s0) = false) : newB h s0 v bad s = false := by unfold newB; rw [a, decide_eq_false b, c]; rfl
theorem ok1064 (n : Nat) : FnOKW C (n + 1) 64 (mkFW s1064 G1064) := by
  refine fn_ofW hC (sp := sp1064) (lp := lp1064) (sw := sw1064) trivial trivial (by kernel_rfl) [] (by kernel_rfl) rfl (fun k hk => by cases hk) fun ds r hh => ?_
  unfold G1064 at hh
  split at hh
  · rename_i v s b p0 p1 p2 p3 p4 p5 ov os oh cv cs ch nr np nc rd po ca
    obtain ⟨⟨hr, hp, hc⟩, hh⟩ : ((nr.I = rd.L.length ∧ np.I = po.L.length ∧ nc.I = ca.L.length) ∧ _) := by
      obtain ⟨hp, hh⟩ := need_some hh
      rw [yes_iff] at hp
      exact ⟨hp, hh⟩
    refine (t1064 v s b p0 p1 p2 p3 p4 p5 ov os oh cv cs ch nr np nc rd po ca).trans ?_
    rw [← hh]
    simp only [hr, hp, hc, Int.toNat_natCast, mx_def]
    unfold hearV
    refine go_ite (fun c1 => by rw [new_t1 c1]; rfl) fun c1 => go_if (fun c2 => by rw [new_t2 c2]; rfl) fun c2 => go_ite (fun c3 => go_ite (fun c4 => by rw [new_t3 c3 c4]; rfl) fun c4 => by rw [new_f1 c1 c2 c3 c4]; rfl) fun c3 => by rw [new_f2 c1 c2 c3]; rfl
  · cases hh
theorem ok2064 (n : Nat) : FnOKW C (n + 1) 64 (mkFW s2064 G2064) := by
  refine fn_ofW hC (sp := sp2064) (lp := lp2064) (sw := sw2064) trivial trivial (by kernel_rfl) [] (by kernel_rfl) rfl (fun k hk => by cases hk) fun ds r hh => ?_
  unfold G2064 at hh
  split at hh
  · rename_i v s b p0 p1 p2 p3 p4 p5 ov os oh cv cs ch nr np nc rd po ca
    obtain ⟨⟨hr, hp, hc⟩, hh⟩ : ((nr.I = rd.L.length ∧ np.I = po.L.length ∧ nc.I = ca.L.length) ∧ _) := by
      obtain ⟨hp, hh⟩ := need_some hh
      rw [yes_iff] at hp
      exact ⟨hp, hh⟩
    refine (t2064 v s b p0 p1 p2 p3 p4 p5 ov os oh cv cs ch nr np nc rd po ca).trans ?_
    rw [← hh]
    simp only [hr, hp, hc, Int.toNat_natCast, mx_def]
    unfold hearV
    refine go_ite (fun c1 => by rw [new_t1 c1]; rfl) fun c1 => go_if (fun c2 => by rw [new_t2 c2]; rfl) fun c2 => go_ite (fun c3 => go_ite (fun c4 => by rw [new_t3 c3 c4]; rfl) fun c4 => by rw [new_f1 c1 c2 c3 c4]; rfl) fun c3 => by rw [new_f2 c1 c2 c3]; rfl
  · cases hh
theorem ok3064 (n : Nat) : FnOKW C (n + 1) 64 (mkFW s3064 G3064) := by
  refine fn_ofW hC (sp := sp3064) (lp := lp3064) (sw := sw3064) trivial trivial (by kernel_rfl) [] (by kernel_rfl) rfl (fun k hk => by cases hk) fun ds r hh => ?_
  unfold G3064 at hh
  split at hh
  · rename_i k v s b l
    obtain ⟨hp, hh⟩ := need_some hh
    rw [yes_iff] at hp
    have hk : k.I.toNat < l.L.length := by omega
    refine (t3064 k v s b l).trans ?_
    rw [← hh]
    unfold hearL hearR
    have g1 : ∀ a, (l.L.set k.I.toNat a).getD k.I.toNat [] = a := fun a => set_get hk a
    simp only [u3_0, u3_1, u3_2, List.length_set, g1, List.set_set, mx_def, List.getD_cons_zero, List.getD_cons_succ, Nat.reduceAdd, ix_def, bx_def]
    refine go_dec hk (go_ite (fun c1 => ?_) fun c1 => go_dec hk (go_if (fun c2 => ?_) fun c2 => go_dec hk (go_ite (fun c3 => go_ite (fun c4 => ?_) fun c4 => ?_) fun c3 => ?_)))
    · rw [new_t1 c1]
      exact go_dec hk (go_dec hk (go_dec hk (go_dec hk rfl)))
    · rw [new_t2 c2]
      exact go_dec hk (go_dec hk (go_dec hk (go_dec hk rfl)))
    · rw [new_t3 c3 c4]
      exact go_dec hk (go_dec hk (go_dec hk (go_dec hk rfl)))
    · rw [new_f1 c1 c2 c3 c4]
      exact go_dec hk (go_dec hk (go_dec hk rfl))
    · rw [new_f2 c1 c2 c3]
      exact go_dec hk (go_dec hk (go_dec hk rfl))
  · cases hh
theorem ok63 (n : Nat) : FnOKW C (n + 2) 63 (mkFW s63 G63) := by
  refine fn_ofW hC (sp := sp63) (lp := lp63) (sw := sw63) trivial ⟨many_ok ⟨ok3064 n, trivial⟩, trivial⟩ (by kernel_rfl) [] (by kernel_rfl) rfl (fun k hk => by cases hk) fun ds r hh => ?_
  unfold G63 at hh
  split at hh
  · rename_i k s p c p0 p1 p2 p3 p4 p5 ov os oh cv cs ch nr np nc rd po ca
    obtain ⟨hp, hh⟩ := need_some hh
    rw [yes_iff] at hp
    obtain ⟨⟨hr, hpo, hc⟩, hp0, hp1⟩ := hp
    refine (t63 k s p c p0 p1 p2 p3 p4 p5 ov os oh cv cs ch nr np nc rd po ca).trans ?_
    rw [← hh]
    simp only [hr, hpo, hc, Int.toNat_natCast]
    have e : ((p.I.toNat : Nat) : Int) = p.I := by omega
    exact go_dec (by omega) (go_yes (by omega) (by rfl))
  · cases hh
theorem ok42 (n : Nat) : FnOK C (n + 2) 42 (mkF s42 G42) := by
  refine fn_ofS hC (sp := sp42) (lp := lp42) (sw := sw42) ⟨ok61 n, ok45 n, trivial⟩ trivial (by kernel_rfl) [] (by kernel_rfl) rfl (fun k hk => by cases hk) fun ds r hh => ?_
  unfold G42 at hh
  split at hh
  · rename_i p0 p1 p2 p3 p4 p5 ov os oh cv cs ch rd po ca car
    obtain ⟨hp, hh⟩ := need_some hh
    rw [yes_iff] at hp
    refine (t42 p0 p1 p2 p3 p4 p5 ov os oh cv cs ch rd po ca car).trans ?_
    rw [← hh]
    rw [wrap_id (by omega) (by omega), within_dec]
    refine go_notT (decide_eq_true (by omega)) (go_not (fun c => ?_) fun c => ?_)
    · have c := of_decide_eq_false c
      rw [decide_eq_false (show ¬ (0 ≤ car.I ∧ car.I ≤ p5.I - 1) by omega)]
      rfl
    · have c := of_decide_eq_true c
      rw [decide_eq_true (show (0 ≤ car.I ∧ car.I ≤ p5.I - 1) by omega)]
      exact go_dec (by omega) rfl
  · cases hh
end Go.Proofs.Ytgmefblkmidglaa
namespace Go.Proofs.Ytgmefblkmidglaa
open Go.Lite
set_option maxRecDepth 100000
set_option linter.unusedVariables false
set_option linter.unusedSimpArgs false
theorem ok35 (n : Nat) : FnOK C (n + 2) 35 (mkF s35 G35) := by
  refine fn_ofS hC (sp := sp35) (lp := lp35) (sw := sw35) ⟨ok47 n, trivial⟩ trivial (by kernel_rfl) [] (by kernel_rfl) rfl (fun k hk => by cases hk) fun ds r hh => ?_
  unfold G35 at hh
  split at hh
  · rename_i p0 p1 p2 p3 p4 p5
    refine (t35 p0 p1 p2 p3 p4 p5).trans ?_
    rw [← hh]
    unfold planG
    repeat' (refine go_ite (fun h => ?_) (fun h => ?_))
    all_goals try simp only [within_dec, Bool.not_eq_true', Bool.not_eq_false', beq_iff_eq, beq_eq_false_iff_ne, bne_iff_ne, bne_eq_false_iff_eq, decide_eq_true_eq, decide_eq_false_iff_not, ne_eq] at *
    all_goals first
      | exact congrArg (fun b => some [D.b b]) (decide_eq_false (by omega)).symm
      | exact congrArg (fun b => some [D.b b]) (decide_eq_true (by omega)).symm
      | exact congrArg (fun b => some [D.b b]) (decide_eq_decide.2 (by omega))
  · cases hh
theorem ok58 (n : Nat) : FnOK C (n + 2) 58 (mkF s58 G58) := by
  refine fn_ofS hC (sp := sp58) (lp := lp58) (sw := sw58) ⟨ok47 n, trivial⟩ trivial (by kernel_rfl) [] (by kernel_rfl) rfl (fun k hk => by cases hk) fun ds r hh => ?_
  unfold G58 at hh
  split at hh
  · rename_i p0 p1 p2 p3 p4 p5 k s p c
    obtain ⟨hp, hh⟩ := need_some hh
    rw [yes_iff] at hp
    refine (t58 p0 p1 p2 p3 p4 p5 k s p c).trans ?_
    rw [← hh]
    unfold okPl at hp
    have e0 : IntKind.i64.wrap (p0.I - 1) = p0.I - 1 := wrap_id (by omega) (by omega)
    have e5 : IntKind.i64.wrap (p5.I - 1) = p5.I - 1 := wrap_id (by omega) (by omega)
    simp only [e0, e5]
    unfold evB
    repeat' (refine go_ite (fun h => ?_) (fun h => ?_))
    all_goals try simp only [within_dec, Bool.not_eq_true', Bool.not_eq_false', beq_iff_eq, beq_eq_false_iff_ne, bne_iff_ne, bne_eq_false_iff_eq, decide_eq_true_eq, decide_eq_false_iff_not, ne_eq] at *
    all_goals first
      | exact congrArg (fun b => some [D.b b]) (decide_eq_false (by omega)).symm
      | exact congrArg (fun b => some [D.b b]) (decide_eq_true (by omega)).symm
      | exact congrArg (fun b => some [D.b b]) (decide_eq_decide.2 (by omega))
  · cases hh
theorem rep_get {n i : Nat} {a b : List D} (h : i < n) : (List.replicate i a ++ List.replicate (n - i) b).getD i [] = b := by
  simp only [List.getD_eq_getElem?_getD]
  rw [List.getElem?_append_right (by simp), List.getElem?_replicate, if_pos (by simp; omega)]
  rfl
theorem rep_set {n i : Nat} {a b : List D} (h : i < n) : (List.replicate i a ++ List.replicate (n - i) b).set i a = List.replicate (i + 1) a ++ List.replicate (n - (i + 1)) b := by
  obtain ⟨k, hk⟩ : ∃ k, n - i = k + 1 := ⟨n - i - 1, by omega⟩
  have e : n - (i + 1) = k := by omega
  rw [List.set_append_right _ _ (by simp), hk, e, List.replicate_succ, List.replicate_succ' (n := i)]
  simp
theorem rep_done {n i : Nat} {a b : List D} (h : n ≤ i) (hi : i ≤ n) : List.replicate i a ++ List.replicate (n - i) b = List.replicate n a := by
  obtain rfl : i = n := by omega
  simp
theorem room {x : Int} {b : Nat} (h0 : 0 ≤ x) (h1 : x ≤ 200) (hb : b ≤ 64) : 0 ≤ x ∧ True ∧ x ≤ (2 : Int) ^ 40 ∧ (b : Int) * x ≤ (2 : Int) ^ 46 := by
  refine ⟨h0, trivial, Int.le_trans h1 (by decide), Int.le_trans (b := 64 * 200) (Int.mul_le_mul (by omega) h1 h0 (by decide)) (by decide)⟩
theorem upd0 : updC ca0 [.i (-1)] (0 + 2) 0 (List.length [K.bool, K.int .i64, K.int .i64, K.bool, K.bool]) = ca1 := by simp [updC, ca0, ca1]
theorem ok34_5 (n : Nat) : LoopSim C (n + 1) 34 (loopOf C.P 34 5) (mkL l34_5 G34_5) := by
  refine loop_ofK hC (sp := sp34) (lp := lp34) (sw := sw34) ⟨ok45 n, trivial⟩ trivial 0 [] (by kernel_rfl) rfl (fun k hk => by cases hk) (by kernel_rfl) (fun ds => ((ds.getD 0 default).I - (ds.getD 1 default).I).toNat) fun ds rr h => ?_
  unfold G34_5 at h
  split at h
  · rename_i m i p0 p1 p2 p3 p4 p5 ov os oh cv cs ch nr np nc rd po ca
    obtain ⟨hp, h⟩ := need_some h
    rw [yes_iff] at hp
    have hb := big_eq
    refine ⟨by rw [fuelC]; simp; omega, ?_⟩
    rw [show (roundTK C (mkTab sp34 lp34 sw34) 34 (loopOf C.P 34 5) 0 l34_5 [m, i, p0, p1, p2, p3, p4, p5, ov, os, oh, cv, cs, ch, nr, np, nc, rd, po, ca]).run = _ from t34_5 m i p0 p1 p2 p3 p4 p5 ov os oh cv cs ch nr np nc rd po ca]
    obtain ⟨⟨hr, hpo, hc⟩, hm, hle, ⟨hi0, hi1⟩, hl⟩ := hp
    obtain ⟨k, hk⟩ : ∃ k : Nat, i.I = k := ⟨i.I.toNat, by omega⟩
    simp only [hk, hm, hr, hpo, hc, Int.toNat_natCast] at h hi0 hi1 hl ⊢
    refine rd_if (fun hlt => ?_) fun hge => rd_out ?_
    · have hk2 : k < ca.L.length := by omega
      refine rd_dec (by omega) (rd_dec hk2 ?_)
      rw [wrap_succ (by omega)]
      have e0 : ca.L.getD k [] = ca0 := by rw [hl]; exact rep_get hk2
      have e1 : ca.L.set k ca1 = List.replicate (k + 1) ca1 ++ List.replicate (ca.L.length - (k + 1)) ca0 := (congrArg (fun l : List (List D) => l.set k ca1) hl).trans (rep_set hk2)
      rw [e0, upd0]
      refine rd_again ((need_yes ⟨⟨rfl, rfl, by simp only [I_i, L_l, List.length_set]⟩, by simp only [I_i, L_l, List.length_set], by simp only [L_l, List.length_set]; omega, ⟨by simp only [I_i]; omega, by simp only [I_i]; omega⟩, by simp only [I_i, L_l, List.length_set, Int.toNat_natCast]; exact e1⟩).trans ?_) (show ((ca.L.length : Int) - ((k + 1 : Nat) : Int)).toNat < (m.I - i.I).toNat by omega)
      rw [← h]
      simp only [L_l, I_i, List.length_set]
      rfl
    · rw [← h]
      have e1 : ca.L = List.replicate ca.L.length ca1 := hl.trans (rep_done (by omega) (by omega))
      rw [← e1]
      rfl
  · cases h
theorem ok34 (n : Nat) : FnOK C (n + 2) 34 (mkF s34 G34) := by
  refine fn_ofS hC (sp := sp34) (lp := lp34) (sw := sw34) ⟨ok45 n, trivial⟩ trivial (by kernel_rfl) [5] (by kernel_rfl) (by kernel_rfl) (fun k hk L hL => by simp at hk; subst hk; cases hL; exact ok34_5 n) fun ds r hh => ?_
  unfold G34 at hh
  split at hh
  · rename_i p0 p1 p2 p3 p4 p5
    refine (t34 p0 p1 p2 p3 p4 p5).trans ?_
    rw [← hh]
    refine go_not (fun c => ?_) fun c1 => go_not (fun c => ?_) fun c2 => go_not (fun c => ?_) fun c3 => go_not (fun c => ?_) fun c4 => go_not (fun c => ?_) fun c5 => go_not (fun c => ?_) fun c6 => ?_
    all_goals simp only [within_dec, decide_eq_true_eq, decide_eq_false_iff_not] at *
    all_goals try (rw [show planG p0.I p1.I p2.I p3.I p4.I p5.I = false from decide_eq_false (by omega)]; rfl)
    rw [show planG p0.I p1.I p2.I p3.I p4.I p5.I = true from decide_eq_true (by omega)]
    have b1 : Try.prog.types[100].bytes ≤ 64 := by rw [show Try.prog.types[100].bytes = 24 by kernel_rfl]; decide
    have b2 : Try.prog.types[93].bytes ≤ 64 := by rw [show Try.prog.types[93].bytes = 32 by kernel_rfl]; decide
    have e5 : ((p5.I.toNat : Nat) : Int) = p5.I := by omega
    have e0 : ((p0.I.toNat : Nat) : Int) = p0.I := by omega
    refine go_dec (room (x := p0.I) (by omega) (by omega) b1) (go_dec (room (x := p0.I) (by omega) (by omega) b1) (go_dec (room (x := p5.I) (by omega) (by omega) b2) (go_yes ?_ ?_)))
    · simp only [List.length_replicate, Int.toNat_natCast, Int.toNat_zero, List.replicate_zero, List.nil_append, Nat.sub_zero]
      refine ⟨⟨?_, ?_, ?_⟩, ?_, ?_, ⟨?_, ?_⟩, ?_⟩
      all_goals first
        | trivial
        | omega
        | rfl
    · simp only [List.length_replicate, Int.toNat_natCast, e5, e0]
      rfl
  · cases hh
theorem ok41_4 (n : Nat) : LoopSim C (n + 1) 41 (loopOf C.P 41 4) (mkL l41_4 G41_4) := by
  refine loop_ofK hC (sp := sp41) (lp := lp41) (sw := sw41) trivial trivial 0 [] (by kernel_rfl) rfl (fun k hk => by cases hk) (by kernel_rfl) (fun ds => (((ds.getD 0 default).L.length : Int) - (ds.getD 2 default).I).toNat) fun ds rr h => ?_
  unfold G41_4 at h
  split at h
  · rename_i a b i
    obtain ⟨hp, h⟩ := need_some h
    rw [yes_iff] at hp
    obtain ⟨hl, he, hi0, hi1⟩ := hp
    have hb := big_eq
    refine ⟨by rw [fuelC]; simp; omega, ?_⟩
    rw [show (roundTK C (mkTab sp41 lp41 sw41) 41 (loopOf C.P 41 4) 0 l41_4 [a, b, i]).run = _ from t41_4 a b i]
    obtain ⟨k, hk⟩ : ∃ k : Nat, i.I = k := ⟨i.I.toNat, by omega⟩
    simp only [hk, Int.toNat_natCast] at h hi0 hi1 ⊢
    refine rd_if (fun hlt => ?_) fun hge => rd_out (all_end h (by omega))
    obtain ⟨s1, s2⟩ := all_step h (by omega : k < a.L.length)
    refine rd_dec (by omega) (rd_dec (by omega) (rd_ite (fun c => rd_out (s1 ?_)) fun c => ?_))
    · have c : (rg a.L k != rg b.L k) = true := c
      unfold eqB
      simpa only [bne_iff_ne, ne_eq, beq_eq_false_iff_ne] using c
    rw [wrap_succ (by omega)]
    refine rd_again ((need_yes ⟨hl, he, by simp only [I_i]; omega, by simp only [I_i, L_l]; omega⟩).trans (s2 ?_)) (show ((a.L.length : Int) - ((k + 1 : Nat) : Int)).toNat < ((a.L.length : Int) - i.I).toNat by omega)
    have c : (rg a.L k != rg b.L k) = false := c
    unfold eqB
    simpa only [bne_eq_false_iff_eq, beq_iff_eq] using c
  · cases h
theorem ok41 (n : Nat) : FnOK C (n + 2) 41 (mkF s41 G41) := by
  refine fn_ofS hC (sp := sp41) (lp := lp41) (sw := sw41) trivial trivial (by kernel_rfl) [4] (by kernel_rfl) (by kernel_rfl) (fun k hk L hL => by simp at hk; subst hk; cases hL; exact ok41_4 n) fun ds r hh => ?_
  unfold G41 at hh
  split at hh
  · rename_i a b
    obtain ⟨hp, hh⟩ := need_some hh
    rw [yes_iff] at hp
    refine (t41 a b).trans ?_
    rw [← hh]
    unfold sameI
    refine go_ite (fun c => ?_) fun c => ?_
    · have c : ((a.L.length : Int) != (b.L.length : Int)) = true := c
      have c : ¬ a.L.length = b.L.length := fun e => by rw [e] at c; simp at c
      rw [decide_eq_false c]
      rfl
    · have c : ((a.L.length : Int) != (b.L.length : Int)) = false := c
      have c : a.L.length = b.L.length := by
        have := (bne_eq_false_iff_eq ..).1 c
        omega
      rw [decide_eq_true c]
      simp only [Int.toNat_zero, Nat.sub_zero, Bool.true_and]
      refine go_yes ⟨hp.1, c, by omega, by omega⟩ (go_ite (fun c => ?_) fun c => ?_)
      · rw [c]
      · rw [c]
  · cases hh
end Go.Proofs.Ytgmefblkmidglaa
namespace Go.Proofs.Ytgmefblkmidglaa
open Go.Lite
set_option maxRecDepth 100000
set_option linter.unusedVariables false
set_option linter.unusedSimpArgs false
theorem ok36_3 (n : Nat) : LoopSim C n 36 (loopOf C.P 36 3) (mkL l36_3 G36_3) := by
  refine loop_ofK hC (sp := sp36) (lp := lp36) (sw := sw36) trivial trivial 0 [] (by kernel_rfl) rfl (fun k hk => by cases hk) (by kernel_rfl) (fun ds => ((ds.getD 13 default).I - (ds.getD 0 default).I).toNat) fun ds rr h => ?_
  unfold G36_3 at h
  split at h
  · rename_i i p0 p1 p2 p3 p4 p5 q0 q1 q2 q3 q4 q5 n ca
    obtain ⟨hp, h⟩ := need_some h
    rw [yes_iff] at hp
    obtain ⟨hn, hp5, hle, ⟨hi0, hi1⟩, hl⟩ := hp
    refine ⟨by rw [fuelC]; simp; omega, ?_⟩
    rw [show (roundTK C (mkTab sp36 lp36 sw36) 36 (loopOf C.P 36 3) 0 l36_3 [i, p0, p1, p2, p3, p4, p5, q0, q1, q2, q3, q4, q5, n, ca]).run = _ from t36_3 i p0 p1 p2 p3 p4 p5 q0 q1 q2 q3 q4 q5 n ca]
    obtain ⟨k, hk⟩ : ∃ k : Nat, i.I = k := ⟨i.I.toNat, by omega⟩
    simp only [hk, hn, hp5, Int.toNat_natCast] at h hi0 hi1 hl ⊢
    refine rd_if (fun hlt => ?_) fun hge => rd_out ?_
    · have hk2 : k < ca.L.length := by omega
      refine rd_dec (by omega) (rd_dec hk2 ?_)
      rw [wrap_succ (by omega)]
      have e0 : ca.L.getD k [] = ca0 := by rw [hl]; exact rep_get hk2
      have e1 : ca.L.set k ca1 = List.replicate (k + 1) ca1 ++ List.replicate (ca.L.length - (k + 1)) ca0 := (congrArg (fun l : List (List D) => l.set k ca1) hl).trans (rep_set hk2)
      rw [e0, upd0]
      refine rd_again ((need_yes ⟨by simp only [I_i, L_l, List.length_set], by simp only [I_i, L_l, List.length_set], by simp only [L_l, List.length_set]; omega, ⟨by simp only [I_i]; omega, by simp only [I_i]; omega⟩, by simp only [I_i, L_l, List.length_set, Int.toNat_natCast]; exact e1⟩).trans ?_) (show ((ca.L.length : Int) - ((k + 1 : Nat) : Int)).toNat < (n.I - i.I).toNat by omega)
      rw [← h]
      simp only [L_l, I_i, List.length_set]
    · rw [← h]
      have e1 : ca.L = List.replicate ca.L.length ca1 := hl.trans (rep_done (by omega) (by omega))
      rw [← e1]
      rfl
  · cases h
theorem ok36 (n : Nat) : FnOK C (n + 1) 36 (mkF s36 G36) := by
  refine fn_ofS hC (sp := sp36) (lp := lp36) (sw := sw36) trivial trivial (by kernel_rfl) [3] (by kernel_rfl) (by kernel_rfl) (fun k hk L hL => by simp at hk; subst hk; cases hL; exact ok36_3 n) fun ds r hh => ?_
  unfold G36 at hh
  split at hh
  · rename_i p0 p1 p2 p3 p4 p5
    obtain ⟨hp, hh⟩ := need_some hh
    rw [yes_iff] at hp
    refine (t36 p0 p1 p2 p3 p4 p5).trans ?_
    rw [← hh]
    have b2 : Try.prog.types[93].bytes ≤ 64 := by rw [show Try.prog.types[93].bytes = 32 by kernel_rfl]; decide
    have e5 : ((p5.I.toNat : Nat) : Int) = p5.I := by omega
    have r5 := room (x := p5.I) (by omega) (by omega) b2
    refine go_dec ⟨r5.1, rfl, r5.2.2⟩ (go_yes ?_ ?_)
    · simp only [List.length_replicate, Int.toNat_natCast, Int.toNat_zero, List.replicate_zero, List.nil_append, Nat.sub_zero]
      refine ⟨?_, ?_, ?_, ⟨?_, ?_⟩, ?_⟩
      all_goals first
        | trivial
        | omega
        | rfl
    · simp only [List.length_replicate, Int.toNat_natCast, e5]
  · cases hh
theorem say_step {al fo po : Int} {ev : List (List D)} {k n : Nat} {s s' : Int × Bool} {rr : Ex × List D} (h : (T.leaf (Ex.exit 0, [D.b (sayF al fo po ev k (n - k) s).2])).run = some rr) (hk : k < n) (e : say1 al fo po (ev.getD k []) s = s') :
    (T.leaf (Ex.exit 0, [D.b (sayF al fo po ev (k + 1) (n - (k + 1)) s').2])).run = some rr := by
  rw [← h, ← e]
  obtain ⟨j, hj⟩ : ∃ j, n - k = j + 1 := ⟨n - k - 1, by omega⟩
  rw [hj, show n - (k + 1) = j by omega]
  rfl
theorem ok82_3 (n : Nat) : LoopSim C n 82 (loopOf C.P 82 3) (mkL l82_3 G82_3) := by
  refine loop_ofK hC (sp := sp82) (lp := lp82) (sw := sw82) trivial trivial 0 [] (by kernel_rfl) rfl (fun k hk => by cases hk) (by kernel_rfl) (fun ds => (((ds.getD 6 default).L.length : Int) - (ds.getD 13 default).I).toNat) fun ds rr h => ?_
  unfold G82_3 at h
  split at h
  · rename_i p0 p1 p2 p3 p4 p5 ev ca al fo p t b i
    obtain ⟨hp, h⟩ := need_some h
    rw [yes_iff] at hp
    obtain ⟨hl, hi0, hi1⟩ := hp
    have hb := big_eq
    refine ⟨by rw [fuelC]; simp; omega, ?_⟩
    rw [show (roundTK C (mkTab sp82 lp82 sw82) 82 (loopOf C.P 82 3) 0 l82_3 [p0, p1, p2, p3, p4, p5, ev, ca, al, fo, p, t, b, i]).run = _ from t82_3 p0 p1 p2 p3 p4 p5 ev ca al fo p t b i]
    obtain ⟨k, hk⟩ : ∃ k : Nat, i.I = k := ⟨i.I.toNat, by omega⟩
    simp only [hk, Int.toNat_natCast] at h hi0 hi1 ⊢
    refine rd_if (fun hlt => ?_) fun hge => rd_out ?_
    · have hk2 : k < ev.L.length := by omega
      refine rd_dec (by omega) ?_
      rw [wrap_succ (by omega)]
      have hm : ((ev.L.length : Int) - ((k + 1 : Nat) : Int)).toNat < ((ev.L.length : Int) - i.I).toNat := by omega
      have done : ∀ (t' b' : D), say1 al.I fo.I p.I (ev.L.getD k []) (t.I, b.B) = (t'.I, b'.B) → (G82_3 [.i p0.I, .i p1.I, .i p2.I, .i p3.I, .i p4.I, .i p5.I, .l ev.L, .l ca.L, .i al.I, .i fo.I, .i p.I, t', b', .i ((k + 1 : Nat) : Int)]).run = some rr := fun t' b' e =>
        (need_yes ⟨hl, by simp only [I_i]; omega, by simp only [I_i, L_l]; omega⟩).trans (say_step h hk2 e)
      have r0 : (ev.L.getD k []).getD 0 default = (ev.L.getD k []).getD 0 default := rfl
      refine rd_ite (fun c0 => rd_ite (fun c1 => rd_again (done (.i t.I) (.b b.B) ?_) hm) fun c1 => ?_) fun c0 => ?_
      · simp only [bne_iff_ne, ne_eq] at c0 c1
        exact if_pos (.inl ⟨c0, c1⟩)
      all_goals
        simp only [bne_iff_ne, bne_eq_false_iff_eq, ne_eq] at c0
        have cc : ¬ (ix (ev.L.getD k []) 0 ≠ al.I ∧ ix (ev.L.getD k []) 0 ≠ fo.I) := by
          first
            | (simp only [bne_eq_false_iff_eq] at c1; exact fun h => h.2 c1)
            | exact fun h => h.1 c0
        refine rd_ite (fun c2 => rd_again (done (.i t.I) (.b b.B) ?_) hm) fun c2 => ?_
        · simp only [bne_iff_ne, ne_eq] at c2
          exact if_pos (.inr (.inl c2))
        simp only [bne_eq_false_iff_eq] at c2
        refine rd_if (fun c3 => rd_again (done (.i t.I) (.b b.B) (if_pos (.inr (.inr c3)))) hm) fun c3 => ?_
        have cn : ¬ ((ix (ev.L.getD k []) 0 ≠ al.I ∧ ix (ev.L.getD k []) 0 ≠ fo.I) ∨ ix (ev.L.getD k []) 2 ≠ p.I ∨ ix (ev.L.getD k []) 1 < t.I) := by
          rintro (h | h | h)
          · exact cc h
          · exact h c2
          · exact c3 h
        refine rd_if (fun c4 => rd_again (done (.i _) (.b _) ((if_neg cn).trans (if_pos c4))) hm) fun c4 => ?_
        refine rd_ite (fun c5 => rd_again (done (.i t.I) (.b true) ((if_neg cn).trans ((if_neg c4).trans ?_))) hm) fun c5 => rd_again (done (.i t.I) (.b _) ((if_neg cn).trans ((if_neg c4).trans ?_))) hm
        · show (t.I, b.B || _) = (t.I, true)
          rw [c5]; rfl
        · show (t.I, b.B || _) = (t.I, _)
          rw [c5]; rfl
    · rw [← h, show ev.L.length - k = 0 by omega]
      rfl
  · cases h
theorem ok82 (n : Nat) : FnOK C (n + 1) 82 (mkF s82 G82) := by
  refine fn_ofS hC (sp := sp82) (lp := lp82) (sw := sw82) trivial trivial (by kernel_rfl) [3] (by kernel_rfl) (by kernel_rfl) (fun k hk L hL => by simp at hk; subst hk; cases hL; exact ok82_3 n) fun ds r hh => ?_
  unfold G82 at hh
  split at hh
  · rename_i p0 p1 p2 p3 p4 p5 ev ca al fo p fi
    obtain ⟨hp, hh⟩ := need_some hh
    rw [yes_iff] at hp
    refine (t82 p0 p1 p2 p3 p4 p5 ev ca al fo p fi).trans ?_
    rw [← hh]
    exact go_yes ⟨hp, by omega, by omega⟩ rfl
  · cases hh
theorem lst_step {po : Int} {ev : List (List D)} {k n : Nat} {t t' : Int} {rr : Ex × List D} (h : (T.leaf (Ex.exit 0, [D.i (lstF po ev k (n - k) t)])).run = some rr) (hk : k < n) (e : lst1 po (ev.getD k []) t = t') :
    (T.leaf (Ex.exit 0, [D.i (lstF po ev (k + 1) (n - (k + 1)) t')])).run = some rr := by
  rw [← h, ← e]
  obtain ⟨j, hj⟩ : ∃ j, n - k = j + 1 := ⟨n - k - 1, by omega⟩
  rw [hj, show n - (k + 1) = j by omega]
  rfl
theorem ok83_3 (n : Nat) : LoopSim C n 83 (loopOf C.P 83 3) (mkL l83_3 G83_3) := by
  refine loop_ofK hC (sp := sp83) (lp := lp83) (sw := sw83) trivial trivial 0 [] (by kernel_rfl) rfl (fun k hk => by cases hk) (by kernel_rfl) (fun ds => (((ds.getD 6 default).L.length : Int) - (ds.getD 10 default).I).toNat) fun ds rr h => ?_
  unfold G83_3 at h
  split at h
  · rename_i p0 p1 p2 p3 p4 p5 ev ca p t i
    obtain ⟨hp, h⟩ := need_some h
    rw [yes_iff] at hp
    obtain ⟨hl, hi0, hi1⟩ := hp
    have hb := big_eq
    refine ⟨by rw [fuelC]; simp; omega, ?_⟩
    rw [show (roundTK C (mkTab sp83 lp83 sw83) 83 (loopOf C.P 83 3) 0 l83_3 [p0, p1, p2, p3, p4, p5, ev, ca, p, t, i]).run = _ from t83_3 p0 p1 p2 p3 p4 p5 ev ca p t i]
    obtain ⟨k, hk⟩ : ∃ k : Nat, i.I = k := ⟨i.I.toNat, by omega⟩
    simp only [hk, Int.toNat_natCast] at h hi0 hi1 ⊢
    refine rd_if (fun hlt => ?_) fun hge => rd_out ?_
    · have hk2 : k < ev.L.length := by omega
      refine rd_dec (by omega) ?_
      rw [wrap_succ (by omega)]
      have hm : ((ev.L.length : Int) - ((k + 1 : Nat) : Int)).toNat < ((ev.L.length : Int) - i.I).toNat := by omega
      have done : ∀ (t' : D), lst1 p.I (ev.L.getD k []) t.I = t'.I → (G83_3 [.i p0.I, .i p1.I, .i p2.I, .i p3.I, .i p4.I, .i p5.I, .l ev.L, .l ca.L, .i p.I, t', .i ((k + 1 : Nat) : Int)]).run = some rr := fun t' e =>
        (need_yes ⟨hl, by simp only [I_i]; omega, by simp only [I_i, L_l]; omega⟩).trans (lst_step h hk2 e)
      refine rd_ite (fun c0 => ?_) fun c0 => rd_again (done (.i t.I) (if_neg fun h' => ?_)) hm
      · have c0 : ix (ev.L.getD k []) 2 = p.I := eq_of_beq c0
        refine rd_ite (fun c1 => rd_again (done (.i _) (if_pos ⟨c0, .inl (eq_of_beq c1)⟩)) hm) fun c1 => rd_ite (fun c2 => rd_again (done (.i _) (if_pos ⟨c0, .inr (.inl (eq_of_beq c2))⟩)) hm) fun c2 => rd_ite (fun c3 => rd_again (done (.i _) (if_pos ⟨c0, .inr (.inr (.inl (eq_of_beq c3)))⟩)) hm) fun c3 =>
          rd_ite (fun c4 => rd_again (done (.i _) (if_pos ⟨c0, .inr (.inr (.inr (eq_of_beq c4)))⟩)) hm) fun c4 => rd_again (done (.i t.I) (if_neg fun h' => ?_)) hm
        rcases h'.2 with h' | h' | h' | h'
        · exact ne_of_beq_false c1 h'
        · exact ne_of_beq_false c2 h'
        · exact ne_of_beq_false c3 h'
        · exact ne_of_beq_false c4 h'
      · exact ne_of_beq_false c0 h'.1
    · rw [← h, show ev.L.length - k = 0 by omega]
      rfl
  · cases h
theorem ok83 (n : Nat) : FnOK C (n + 1) 83 (mkF s83 G83) := by
  refine fn_ofS hC (sp := sp83) (lp := lp83) (sw := sw83) trivial trivial (by kernel_rfl) [3] (by kernel_rfl) (by kernel_rfl) (fun k hk L hL => by simp at hk; subst hk; cases hL; exact ok83_3 n) fun ds r hh => ?_
  unfold G83 at hh
  split at hh
  · rename_i p0 p1 p2 p3 p4 p5 ev ca p
    obtain ⟨hp, hh⟩ := need_some hh
    rw [yes_iff] at hp
    refine (t83 p0 p1 p2 p3 p4 p5 ev ca p).trans ?_
    rw [← hh]
    exact go_yes ⟨hp, by omega, by omega⟩ rfl
  · cases hh
theorem up_p (c : List D) (x : D) : updC c [x] (0 + 2) 0 (List.length [K.bool, K.int .i64, K.int .i64, K.bool, K.bool]) = [c.getD 0 default, c.getD 1 default, x, c.getD 3 default, c.getD 4 default] := by simp [updC]
theorem up_s (c : List D) (x : D) : updC c [x] (0 + 3) 0 (List.length [K.bool, K.int .i64, K.int .i64, K.bool, K.bool]) = [c.getD 0 default, c.getD 1 default, c.getD 2 default, x, c.getD 4 default] := by simp [updC]
theorem up_f (c : List D) (x : D) : updC c [x] (0 + 4) 0 (List.length [K.bool, K.int .i64, K.int .i64, K.bool, K.bool]) = [c.getD 0 default, c.getD 1 default, c.getD 2 default, c.getD 3 default, x] := by simp [updC]
theorem refCa_no {k p c : Int} {ca : List (List D)} (h : bx (ca.getD c.toNat []) 0 = false) : refCa k p c ca = ca := by
  unfold refCa
  rw [h]
  rfl
theorem refCa_yes {k p c : Int} {ca : List (List D)} (h : bx (ca.getD c.toNat []) 0 = true) : refCa k p c ca = (if k = 8 then ca.set c.toNat [(ca.getD c.toNat []).getD 0 default, (ca.getD c.toNat []).getD 1 default, .i (mxI (ix (ca.getD c.toNat []) 2) p), (ca.getD c.toNat []).getD 3 default, (ca.getD c.toNat []).getD 4 default]
  else if k = 9 then ca.set c.toNat [(ca.getD c.toNat []).getD 0 default, (ca.getD c.toNat []).getD 1 default, (ca.getD c.toNat []).getD 2 default, .b true, (ca.getD c.toNat []).getD 4 default]
  else if k = 10 then ca.set c.toNat [(ca.getD c.toNat []).getD 0 default, (ca.getD c.toNat []).getD 1 default, (ca.getD c.toNat []).getD 2 default, (ca.getD c.toNat []).getD 3 default, .b true] else ca) := by
  unfold refCa
  rw [h]
  rfl
theorem ok1059 (n : Nat) : FnOKW C (n + 1) 59 (mkFW s1059 G1059) := by
  refine fn_ofW hC (sp := sp1059) (lp := lp1059) (sw := sw1059) trivial trivial (by kernel_rfl) [] (by kernel_rfl) rfl (fun k hk => by cases hk) fun ds r hh => ?_
  unfold G1059 at hh
  split at hh
  · rename_i k s p c p0 p1 p2 p3 p4 p5 nc ca
    obtain ⟨hp, hh⟩ := need_some hh
    rw [yes_iff] at hp
    obtain ⟨hn, h1, h2⟩ := hp
    refine (t1059 k s p c p0 p1 p2 p3 p4 p5 nc ca).trans ?_
    rw [← hh]
    have hc : c.I.toNat < ca.L.length := by omega
    simp only [hn, Int.toNat_natCast]
    refine go_dec ⟨h1, h2⟩ (go_dec hc (go_not (fun c0 => ?_) fun c0 => ?_))
    · rw [refCa_no c0]
      rfl
    · refine go_ite (fun c1 => go_dec hc (go_dec hc ?_)) fun c1 => go_ite (fun c2 => go_dec hc ?_) fun c2 => go_ite (fun c3 => go_dec hc ?_) fun c3 => ?_
      · rw [(refCa_yes c0).trans (if_pos (eq_of_beq c1)), up_p]
        rfl
      · rw [(refCa_yes c0).trans ((if_neg (ne_of_beq_false c1)).trans (if_pos (eq_of_beq c2))), up_s]
        rfl
      · rw [(refCa_yes c0).trans ((if_neg (ne_of_beq_false c1)).trans ((if_neg (ne_of_beq_false c2)).trans (if_pos (eq_of_beq c3)))), up_f]
        rfl
      · rw [(refCa_yes c0).trans ((if_neg (ne_of_beq_false c1)).trans ((if_neg (ne_of_beq_false c2)).trans (if_neg (ne_of_beq_false c3))))]
        rfl
  · cases hh
theorem ok2059 (n : Nat) : FnOKW C (n + 1) 59 (mkFW s2059 G2059) := by
  refine fn_ofW hC (sp := sp2059) (lp := lp2059) (sw := sw2059) trivial trivial (by kernel_rfl) [] (by kernel_rfl) rfl (fun k hk => by cases hk) fun ds r hh => ?_
  unfold G2059 at hh
  split at hh
  · rename_i k s p c p0 p1 p2 p3 p4 p5 ne nc ev ca
    obtain ⟨hp, hh⟩ := need_some hh
    rw [yes_iff] at hp
    obtain ⟨hn, hne, hle, h1, h2⟩ := hp
    refine (t2059 k s p c p0 p1 p2 p3 p4 p5 ne nc ev ca).trans ?_
    rw [← hh]
    have hc : c.I.toNat < ca.L.length := by omega
    have e1 : List.take 1 [[D.i k.I, D.i s.I, D.i p.I, D.i c.I]] = [evRow k s p c] := rfl
    have e3 : List.length [evRow k s p c] = 1 := rfl
    have e2 : Try.prog.types[81].bytes = 32 := by kernel_rfl
    simp only [hn, hne, Int.toNat_natCast, List.length_singleton, e1, e3, List.take_length, e2]
    refine go_dec ⟨Nat.le_refl _, by omega, by omega⟩ (go_dec ⟨h1, h2⟩ (go_dec hc (go_not (fun c0 => ?_) fun c0 => ?_)))
    · rw [refCa_no c0]
    · refine go_ite (fun c1 => go_dec hc (go_dec hc ?_)) fun c1 => go_ite (fun c2 => go_dec hc ?_) fun c2 => go_ite (fun c3 => go_dec hc ?_) fun c3 => ?_
      · rw [(refCa_yes c0).trans (if_pos (eq_of_beq c1)), up_p]
        rfl
      · rw [(refCa_yes c0).trans ((if_neg (ne_of_beq_false c1)).trans (if_pos (eq_of_beq c2))), up_s]
      · rw [(refCa_yes c0).trans ((if_neg (ne_of_beq_false c1)).trans ((if_neg (ne_of_beq_false c2)).trans (if_pos (eq_of_beq c3)))), up_f]
      · rw [(refCa_yes c0).trans ((if_neg (ne_of_beq_false c1)).trans ((if_neg (ne_of_beq_false c2)).trans (if_neg (ne_of_beq_false c3))))]
  · cases hh
end Go.Proofs.Ytgmefblkmidglaa
namespace Go.Proofs.Ytgmefblkmidglaa
open Go.Lite
set_option maxRecDepth 100000
set_option linter.unusedVariables false
set_option linter.unusedSimpArgs false
theorem roundTK_head' {C : Cfg} {tab : Tab} {f : FuncId} {b : Code} {k : Nat} {s : LSig} {j : D} {n : Int} {r : List D} (h : j.I = n) (hs : 2 ≤ s.head.length) : roundTK C tab f b k s (j :: r) = roundTK C tab f b k s (.i n :: r) := by
  obtain ⟨live, head, exits⟩ := s
  match head, hs with
  | a :: b :: c, _ => simp only [roundTK, roundTG, headL, headA, List.headD_cons, List.tail_cons, I_i, h]
theorem stepP_len (p1 t : Int) (ev : List (List D)) (j : Nat) (br : List (List D)) : (stepP p1 t ev j br).length = br.length := by
  unfold stepP
  dsimp only
  split <;> split <;> simp only [List.length_set]
theorem stepP_no {p1 t : Int} {ev : List (List D)} {j : Nat} {br : List (List D)} (h : saysB 5 4 j false ev = false) : stepP p1 t ev j br = if lastB j ev < 0 ∨ lastB j ev < t - p1 then br.set 3 [.b true] else br := by
  unfold stepP
  rw [h]
  rfl
theorem stepP_yes {p1 t : Int} {ev : List (List D)} {j : Nat} {br : List (List D)} (h : saysB 5 4 j false ev = true) : stepP p1 t ev j br = if lastB j ev < 0 ∨ lastB j ev < t - p1 then (br.set 2 [.b true]).set 3 [.b true] else br.set 2 [.b true] := by
  unfold stepP
  rw [h]
  rfl
def sC (bq mq iq oq : Bool) (br : List (List D)) : List (List D) :=
  let b := if bq then br.set 5 [.b true] else br
  let b := if mq then b.set 6 [.b true] else b
  let b := if iq then b.set 7 [.b true] else b
  if oq then b.set 8 [.b true] else b
theorem stepC_no {p0 p2 p3 p4 car t : Int} {ca : List (List D)} {j : Nat} {br : List (List D)} (h : bx (ca.getD j []) 0 = false) : stepC p0 p2 p3 p4 car t ca j br = br := by
  unfold stepC
  rw [h]
  rfl
theorem stepC_yes {p0 p2 p3 p4 car t : Int} {ca : List (List D)} {j : Nat} {br : List (List D)} {bq mq iq oq : Bool} (h : bx (ca.getD j []) 0 = true) (h1 : befR p2 (ca.getD j []) = bq) (h2 : misR p0 p4 t (ca.getD j []) = mq) (h3 : intR p3 t (ca.getD j []) = iq) (h4 : decide ((j : Int) ≥ car) = oq) :
    stepC p0 p2 p3 p4 car t ca j br = sC bq mq iq oq br := by
  unfold stepC
  rw [h, h1, h2, h3, ← h4]
  simp only [sC, if_true, decide_eq_true_eq]
theorem postsF_len (p1 t : Int) (ev : List (List D)) : ∀ (k j : Nat) (br : List (List D)), (postsF p1 t ev j k br).length = br.length
  | 0, _, _ => rfl
  | k + 1, j, br => (postsF_len p1 t ev k (j + 1) _).trans (stepP_len ..)
theorem stepC_len (p0 p2 p3 p4 car t : Int) (ca : List (List D)) (j : Nat) (br : List (List D)) : (stepC p0 p2 p3 p4 car t ca j br).length = br.length := by
  unfold stepC
  dsimp only
  repeat' split
  all_goals simp only [List.length_set]
theorem carsF_len (p0 p2 p3 p4 car t : Int) (ca : List (List D)) : ∀ (k j : Nat) (br : List (List D)), (carsF p0 p2 p3 p4 car t ca j k br).length = br.length
  | 0, _, _ => rfl
  | k + 1, j, br => (carsF_len p0 p2 p3 p4 car t ca k (j + 1) _).trans (stepC_len ..)
theorem ok60_6 (n : Nat) : LoopSim C (n + 1) 60 (loopOf C.P 60 6) (mkL l60_6 G60_6) := by
  refine loop_ofK hC (sp := sp60) (lp := lp60) (sw := sw60) ⟨ok82 n, ok83 n, trivial⟩ trivial 0 [] (by kernel_rfl) rfl (fun k hk => by cases hk) (by kernel_rfl) (fun ds => ((ds.getD 12 default).I - (ds.getD 11 default).I).toNat) fun ds rr h => ?_
  unfold G60_6 at h
  split at h
  · rename_i p0 p1 p2 p3 p4 p5 ev ca car t nn i q0 q1 q2 q3 q4 q5 br
    obtain ⟨hp, h⟩ := need_some h
    rw [yes_iff] at hp
    obtain ⟨hpl, ⟨hi0, hi1⟩, hn, hbl, hev, ht⟩ := hp
    have hpl' := hpl
    unfold okPl at hpl'
    have ht' := ht
    unfold tOK at ht'
    have hb := big_eq
    refine ⟨by rw [fuelC]; simp; omega, ?_⟩
    rw [show (roundTK C (mkTab sp60 lp60 sw60) 60 (loopOf C.P 60 6) 0 l60_6 [p0, p1, p2, p3, p4, p5, ev, ca, car, t, nn, i, q0, q1, q2, q3, q4, q5, br]) = _ from t60_6 p0 p1 p2 p3 p4 p5 ev ca car t nn i q0 q1 q2 q3 q4 q5 br]
    obtain ⟨k, hk⟩ : ∃ k : Nat, i.I = k := ⟨i.I.toNat, by omega⟩
    obtain ⟨m, hm⟩ : ∃ m : Nat, q0.I = m := ⟨q0.I.toNat, by omega⟩
    have e1 : IntKind.i64.wrap (t.I - q1.I) = t.I - q1.I := wrap_id (by omega) (by omega)
    have e9 : (((9 : Int).toNat : Nat) : Int) = 9 := rfl
    simp only [hk, hm, hn, e1, e9, Int.toNat_natCast, upd1] at h hi0 hi1 ⊢
    refine rd_if (fun hlt => ?_) fun hge => rd_out ?_
    · have hk2 : k < m := by omega
      rw [wrap_succ (by omega)]
      have hme : ((m : Int) - ((k + 1 : Nat) : Int)).toNat < (q0.I - i.I).toNat := by omega
      have done : ∀ br' : D, stepP q1.I t.I ev.L k br.L = br'.L → (G60_6 [.i p0.I, .i p1.I, .i p2.I, .i p3.I, .i p4.I, .i p5.I, .l ev.L, .l ca.L, .i car.I, .i t.I, .i 9, .i ((k + 1 : Nat) : Int), .i m, .i q1.I, .i q2.I, .i q3.I, .i q4.I, .i q5.I, br']).run = some rr := fun br' e => by
        refine (need_yes ⟨by rw [hm] at hpl; exact hpl, ⟨by simp only [I_i]; omega, by simp only [I_i]; omega⟩, rfl, by rw [← e, stepP_len]; exact hbl, hev, ht⟩).trans ?_
        rw [← h, ← e]
        obtain ⟨j, hj⟩ : ∃ j, ((m : Int) - (k : Int)).toNat = j + 1 := ⟨m - k - 1, by omega⟩
        simp only [I_i, Int.toNat_natCast, hj, show ((m : Int) - ((k + 1 : Nat) : Int)).toNat = j by omega]
        rfl
      refine rd_yes hev (rd_ite (fun c0 => ?_) fun c0 => ?_)
      · refine rd_dec (by decide) (rd_dec (by show 2 < _; omega) (rd_yes hev ?_))
        refine rd_if (fun c1 => rd_dec (by decide) (rd_dec (by show 3 < _; rw [List.length_set]; omega) (rd_again (done (.l _) ?_) hme))) fun c1 => rd_if (fun c2 => rd_dec (by decide) (rd_dec (by show 3 < _; rw [List.length_set]; omega) (rd_again (done (.l _) ?_) hme))) fun c2 => rd_again (done (.l _) ?_) hme
        · rw [(stepP_yes c0).trans (if_pos (.inl c1))]
          rfl
        · rw [(stepP_yes c0).trans (if_pos (.inr c2))]
          rfl
        · rw [(stepP_yes c0).trans (if_neg (fun h => h.elim c1 c2))]
          rfl
      · refine rd_yes hev ?_
        refine rd_if (fun c1 => rd_dec (by decide) (rd_dec (by show 3 < _; omega) (rd_again (done (.l _) ?_) hme))) fun c1 => rd_if (fun c2 => rd_dec (by decide) (rd_dec (by show 3 < _; omega) (rd_again (done (.l _) ?_) hme))) fun c2 => rd_again (done (.l _) ?_) hme
        · rw [(stepP_no c0).trans (if_pos (.inl c1))]
          rfl
        · rw [(stepP_no c0).trans (if_pos (.inr c2))]
          rfl
        · rw [(stepP_no c0).trans (if_neg (fun h => h.elim c1 c2))]
          rfl
    · rw [← h, show ((m : Int) - (k : Int)).toNat = 0 by omega]
      rfl
  · cases h
theorem ok60_14 (n : Nat) : LoopSim C (n + 1) 60 (loopOf C.P 60 14) (mkL l60_14 G60_14) := by
  refine loop_ofK hC (sp := sp60) (lp := lp60) (sw := sw60) ⟨ok82 n, ok83 n, trivial⟩ trivial 0 [] (by kernel_rfl) rfl (fun k hk => by cases hk) (by kernel_rfl) (fun ds => ((ds.getD 17 default).I - (ds.getD 11 default).I).toNat) fun ds rr h => ?_
  unfold G60_14 at h
  split at h
  · rename_i p0 p1 p2 p3 p4 p5 ev ca car t nn i q0 q1 q2 q3 q4 q5 br
    obtain ⟨hp, h⟩ := need_some h
    rw [yes_iff] at hp
    obtain ⟨hpl, ⟨hi0, hi1⟩, hn, hbl, hca, hoc, ht⟩ := hp
    have hpl' := hpl
    unfold okPl at hpl'
    have ht' := ht
    unfold tOK at ht'
    have hb := big_eq
    refine ⟨by rw [fuelC]; simp; omega, ?_⟩
    rw [show (roundTK C (mkTab sp60 lp60 sw60) 60 (loopOf C.P 60 14) 0 l60_14 [p0, p1, p2, p3, p4, p5, ev, ca, car, t, nn, i, q0, q1, q2, q3, q4, q5, br]) = _ from t60_14 p0 p1 p2 p3 p4 p5 ev ca car t nn i q0 q1 q2 q3 q4 q5 br]
    obtain ⟨k, hk⟩ : ∃ k : Nat, i.I = k := ⟨i.I.toNat, by omega⟩
    have e0 : IntKind.i64.wrap (q0.I - 1) = q0.I - 1 := wrap_id (by omega) (by omega)
    have e2 : IntKind.i64.wrap (q2.I - 1) = q2.I - 1 := wrap_id (by omega) (by omega)
    have e3 : IntKind.i64.wrap (t.I - q3.I) = t.I - q3.I := wrap_id (by omega) (by omega)
    have e4 : IntKind.i64.wrap (t.I - q4.I) = t.I - q4.I := wrap_id (by omega) (by omega)
    have e9 : (((9 : Int).toNat : Nat) : Int) = 9 := rfl
    simp only [hk, hca, hn, e0, e2, e3, e4, e9, Int.toNat_natCast, upd1] at h hi0 hi1 ⊢
    refine rd_if (fun hlt => ?_) fun hge => rd_out ?_
    · have hk2 : k < ca.L.length := by omega
      rw [wrap_succ (by omega)]
      have hme : ((ca.L.length : Int) - ((k + 1 : Nat) : Int)).toNat < (q5.I - i.I).toNat := by omega
      have done : ∀ br' : D, stepC q0.I q2.I q3.I q4.I car.I t.I ca.L k br.L = br'.L → (G60_14 [.i p0.I, .i p1.I, .i p2.I, .i p3.I, .i p4.I, .i p5.I, .l ev.L, .l ca.L, .i car.I, .i t.I, .i 9, .i ((k + 1 : Nat) : Int), .i q0.I, .i q1.I, .i q2.I, .i q3.I, .i q4.I, .i ca.L.length, br']).run = some rr := fun br' e => by
        refine (need_yes ⟨by rw [hca] at hpl; exact hpl, ⟨by simp only [I_i]; omega, by simp only [I_i]; omega⟩, rfl, by rw [← e, stepC_len]; exact hbl, rfl, hoc, ht⟩).trans ?_
        rw [← h, ← e]
        obtain ⟨j, hj⟩ : ∃ j, ((ca.L.length : Int) - (k : Int)).toNat = j + 1 := ⟨ca.L.length - k - 1, by omega⟩
        simp only [I_i, L_l, Int.toNat_natCast, hj, show ((ca.L.length : Int) - ((k + 1 : Nat) : Int)).toNat = j by omega]
        rfl
      have l0 : br.L.length = 9 := hbl
      have lq : ∀ {q : Nat} (l : List (List D)), l.length = br.L.length → q < 9 → q < l.length := fun l h1 h2 => by rw [h1, l0]; exact h2
      refine rd_dec ⟨hi0, hlt⟩ ?_
      generalize hc : ca.L.getD k [] = c at done ⊢
      have st0 : bx c 0 = false → stepC q0.I q2.I q3.I q4.I car.I t.I ca.L k br.L = br.L := fun h => stepC_no (by rw [hc]; exact h)
      have st1 : ∀ {bq mq iq oq : Bool}, bx c 0 = true → befR q2.I c = bq → misR q0.I q4.I t.I c = mq → intR q3.I t.I c = iq → decide ((k : Int) ≥ car.I) = oq → stepC q0.I q2.I q3.I q4.I car.I t.I ca.L k br.L = sC bq mq iq oq br.L := fun h h1 h2 h3 h4 => stepC_yes (by rw [hc]; exact h) (by rw [hc]; exact h1) (by rw [hc]; exact h2) (by rw [hc]; exact h3) h4
      have bS : bx c 3 = true → befR q2.I c = false := fun h => by unfold befR; rw [h]; rfl
      have bT : bx c 3 = false → ix c 2 < q2.I - 1 → befR q2.I c = true := fun h h1 => by unfold befR; rw [h, decide_eq_true h1]; rfl
      have bF : bx c 3 = false → ¬ ix c 2 < q2.I - 1 → befR q2.I c = false := fun h h1 => by unfold befR; rw [h, decide_eq_false h1]; rfl
      have mS : bx c 3 = true → misR q0.I q4.I t.I c = false := fun h => by unfold misR; rw [h]; rfl
      have mF : bx c 4 = true → misR q0.I q4.I t.I c = false := fun h => by unfold misR; rw [h, Bool.not_true, Bool.and_false]; rfl
      have mB : ¬ ix c 2 < q0.I - 1 → misR q0.I q4.I t.I c = false := fun h => by unfold misR; rw [decide_eq_false h, Bool.false_and, Bool.and_false]
      have mC : ¬ ix c 1 < t.I - q4.I → misR q0.I q4.I t.I c = false := fun h => by unfold misR; rw [decide_eq_false (p := t.I - ix c 1 > q4.I) (by omega), Bool.and_false, Bool.and_false]
      have mT : bx c 3 = false → bx c 4 = false → ix c 2 < q0.I - 1 → ix c 1 < t.I - q4.I → misR q0.I q4.I t.I c = true := fun h1 h2 h3 h4 => by unfold misR; rw [h1, h2, decide_eq_true h3, decide_eq_true (p := t.I - ix c 1 > q4.I) (by omega)]; rfl
      have iT : ix c 1 > t.I - q3.I → intR q3.I t.I c = true := fun h => decide_eq_true h
      have iF : ¬ ix c 1 > t.I - q3.I → intR q3.I t.I c = false := fun h => decide_eq_false h
      have oT : (k : Int) ≥ car.I → decide ((k : Int) ≥ car.I) = true := fun h => decide_eq_true h
      have oF : ¬ (k : Int) ≥ car.I → decide ((k : Int) ≥ car.I) = false := fun h => decide_eq_false h
      exact rd_not (fun c1 => rd_again (done (.l br.L) (st0 c1)) hme) fun c1 =>
        rd_not (fun c2 => rd_if (fun c3 => rd_dec (by decide) (rd_dec (lq _ (by simp only [List.length_set]) (by decide)) (rd_not (fun c4 => rd_not (fun c5 => rd_if (fun c6 => rd_if (fun c7 => rd_dec (by decide) (rd_dec (lq _ (by simp only [List.length_set]) (by decide)) (rd_if (fun c8 => rd_dec (by decide) (rd_dec (lq _ (by simp only [List.length_set]) (by decide)) (rd_if (fun c9 => rd_dec (by decide) (rd_dec (lq _ (by simp only [List.length_set]) (by decide)) (rd_again (done (.l _) (st1 c1 (bT c4 c3) (mT c4 c5 c6 c7) (iT c8) (oT c9))) hme))) fun c9 =>
                        rd_again (done (.l _) (st1 c1 (bT c4 c3) (mT c4 c5 c6 c7) (iT c8) (oF c9))) hme))) fun c8 =>
                      rd_if (fun c10 => rd_dec (by decide) (rd_dec (lq _ (by simp only [List.length_set]) (by decide)) (rd_again (done (.l _) (st1 c1 (bT c4 c3) (mT c4 c5 c6 c7) (iF c8) (oT c10))) hme))) fun c10 =>
                        rd_again (done (.l _) (st1 c1 (bT c4 c3) (mT c4 c5 c6 c7) (iF c8) (oF c10))) hme))) fun c7 =>
                    rd_if (fun c11 => rd_dec (by decide) (rd_dec (lq _ (by simp only [List.length_set]) (by decide)) (rd_if (fun c12 => rd_dec (by decide) (rd_dec (lq _ (by simp only [List.length_set]) (by decide)) (rd_again (done (.l _) (st1 c1 (bT c4 c3) (mC c7) (iT c11) (oT c12))) hme))) fun c12 =>
                        rd_again (done (.l _) (st1 c1 (bT c4 c3) (mC c7) (iT c11) (oF c12))) hme))) fun c11 =>
                      rd_if (fun c13 => rd_dec (by decide) (rd_dec (lq _ (by simp only [List.length_set]) (by decide)) (rd_again (done (.l _) (st1 c1 (bT c4 c3) (mC c7) (iF c11) (oT c13))) hme))) fun c13 =>
                        rd_again (done (.l _) (st1 c1 (bT c4 c3) (mC c7) (iF c11) (oF c13))) hme) fun c6 =>
                  rd_if (fun c14 => rd_dec (by decide) (rd_dec (lq _ (by simp only [List.length_set]) (by decide)) (rd_if (fun c15 => rd_dec (by decide) (rd_dec (lq _ (by simp only [List.length_set]) (by decide)) (rd_again (done (.l _) (st1 c1 (bT c4 c3) (mB c6) (iT c14) (oT c15))) hme))) fun c15 =>
                      rd_again (done (.l _) (st1 c1 (bT c4 c3) (mB c6) (iT c14) (oF c15))) hme))) fun c14 =>
                    rd_if (fun c16 => rd_dec (by decide) (rd_dec (lq _ (by simp only [List.length_set]) (by decide)) (rd_again (done (.l _) (st1 c1 (bT c4 c3) (mB c6) (iF c14) (oT c16))) hme))) fun c16 =>
                      rd_again (done (.l _) (st1 c1 (bT c4 c3) (mB c6) (iF c14) (oF c16))) hme) fun c5 =>
                rd_if (fun c17 => rd_dec (by decide) (rd_dec (lq _ (by simp only [List.length_set]) (by decide)) (rd_if (fun c18 => rd_dec (by decide) (rd_dec (lq _ (by simp only [List.length_set]) (by decide)) (rd_again (done (.l _) (st1 c1 (bT c4 c3) (mF c5) (iT c17) (oT c18))) hme))) fun c18 =>
                    rd_again (done (.l _) (st1 c1 (bT c4 c3) (mF c5) (iT c17) (oF c18))) hme))) fun c17 =>
                  rd_if (fun c19 => rd_dec (by decide) (rd_dec (lq _ (by simp only [List.length_set]) (by decide)) (rd_again (done (.l _) (st1 c1 (bT c4 c3) (mF c5) (iF c17) (oT c19))) hme))) fun c19 =>
                    rd_again (done (.l _) (st1 c1 (bT c4 c3) (mF c5) (iF c17) (oF c19))) hme) fun c4 =>
              rd_if (fun c20 => rd_dec (by decide) (rd_dec (lq _ (by simp only [List.length_set]) (by decide)) (rd_if (fun c21 => rd_dec (by decide) (rd_dec (lq _ (by simp only [List.length_set]) (by decide)) (absurd (c2.symm.trans c4) (by decide)))) fun c21 =>
                  absurd (c2.symm.trans c4) (by decide)))) fun c20 =>
                rd_if (fun c22 => rd_dec (by decide) (rd_dec (lq _ (by simp only [List.length_set]) (by decide)) (absurd (c2.symm.trans c4) (by decide)))) fun c22 =>
                  absurd (c2.symm.trans c4) (by decide)))) fun c3 =>
            rd_not (fun c23 => rd_not (fun c24 => rd_if (fun c25 => rd_if (fun c26 => rd_dec (by decide) (rd_dec (lq _ (by simp only [List.length_set]) (by decide)) (rd_if (fun c27 => rd_dec (by decide) (rd_dec (lq _ (by simp only [List.length_set]) (by decide)) (rd_if (fun c28 => rd_dec (by decide) (rd_dec (lq _ (by simp only [List.length_set]) (by decide)) (rd_again (done (.l _) (st1 c1 (bF c23 c3) (mT c23 c24 c25 c26) (iT c27) (oT c28))) hme))) fun c28 =>
                        rd_again (done (.l _) (st1 c1 (bF c23 c3) (mT c23 c24 c25 c26) (iT c27) (oF c28))) hme))) fun c27 =>
                      rd_if (fun c29 => rd_dec (by decide) (rd_dec (lq _ (by simp only [List.length_set]) (by decide)) (rd_again (done (.l _) (st1 c1 (bF c23 c3) (mT c23 c24 c25 c26) (iF c27) (oT c29))) hme))) fun c29 =>
                        rd_again (done (.l _) (st1 c1 (bF c23 c3) (mT c23 c24 c25 c26) (iF c27) (oF c29))) hme))) fun c26 =>
                    rd_if (fun c30 => rd_dec (by decide) (rd_dec (lq _ (by simp only [List.length_set]) (by decide)) (rd_if (fun c31 => rd_dec (by decide) (rd_dec (lq _ (by simp only [List.length_set]) (by decide)) (rd_again (done (.l _) (st1 c1 (bF c23 c3) (mC c26) (iT c30) (oT c31))) hme))) fun c31 =>
                        rd_again (done (.l _) (st1 c1 (bF c23 c3) (mC c26) (iT c30) (oF c31))) hme))) fun c30 =>
                      rd_if (fun c32 => rd_dec (by decide) (rd_dec (lq _ (by simp only [List.length_set]) (by decide)) (rd_again (done (.l _) (st1 c1 (bF c23 c3) (mC c26) (iF c30) (oT c32))) hme))) fun c32 =>
                        rd_again (done (.l _) (st1 c1 (bF c23 c3) (mC c26) (iF c30) (oF c32))) hme) fun c25 =>
                  rd_if (fun c33 => rd_dec (by decide) (rd_dec (lq _ (by simp only [List.length_set]) (by decide)) (rd_if (fun c34 => rd_dec (by decide) (rd_dec (lq _ (by simp only [List.length_set]) (by decide)) (rd_again (done (.l _) (st1 c1 (bF c23 c3) (mB c25) (iT c33) (oT c34))) hme))) fun c34 =>
                      rd_again (done (.l _) (st1 c1 (bF c23 c3) (mB c25) (iT c33) (oF c34))) hme))) fun c33 =>
                    rd_if (fun c35 => rd_dec (by decide) (rd_dec (lq _ (by simp only [List.length_set]) (by decide)) (rd_again (done (.l _) (st1 c1 (bF c23 c3) (mB c25) (iF c33) (oT c35))) hme))) fun c35 =>
                      rd_again (done (.l _) (st1 c1 (bF c23 c3) (mB c25) (iF c33) (oF c35))) hme) fun c24 =>
                rd_if (fun c36 => rd_dec (by decide) (rd_dec (lq _ (by simp only [List.length_set]) (by decide)) (rd_if (fun c37 => rd_dec (by decide) (rd_dec (lq _ (by simp only [List.length_set]) (by decide)) (rd_again (done (.l _) (st1 c1 (bF c23 c3) (mF c24) (iT c36) (oT c37))) hme))) fun c37 =>
                    rd_again (done (.l _) (st1 c1 (bF c23 c3) (mF c24) (iT c36) (oF c37))) hme))) fun c36 =>
                  rd_if (fun c38 => rd_dec (by decide) (rd_dec (lq _ (by simp only [List.length_set]) (by decide)) (rd_again (done (.l _) (st1 c1 (bF c23 c3) (mF c24) (iF c36) (oT c38))) hme))) fun c38 =>
                    rd_again (done (.l _) (st1 c1 (bF c23 c3) (mF c24) (iF c36) (oF c38))) hme) fun c23 =>
              rd_if (fun c39 => rd_dec (by decide) (rd_dec (lq _ (by simp only [List.length_set]) (by decide)) (rd_if (fun c40 => rd_dec (by decide) (rd_dec (lq _ (by simp only [List.length_set]) (by decide)) (absurd (c2.symm.trans c23) (by decide)))) fun c40 =>
                  absurd (c2.symm.trans c23) (by decide)))) fun c39 =>
                rd_if (fun c41 => rd_dec (by decide) (rd_dec (lq _ (by simp only [List.length_set]) (by decide)) (absurd (c2.symm.trans c23) (by decide)))) fun c41 =>
                  absurd (c2.symm.trans c23) (by decide)) fun c2 =>
          rd_not (fun c42 => rd_not (fun c43 => rd_if (fun c44 => rd_if (fun c45 => rd_dec (by decide) (rd_dec (lq _ (by simp only [List.length_set]) (by decide)) (rd_if (fun c46 => rd_dec (by decide) (rd_dec (lq _ (by simp only [List.length_set]) (by decide)) (rd_if (fun c47 => rd_dec (by decide) (rd_dec (lq _ (by simp only [List.length_set]) (by decide)) (absurd (c2.symm.trans c42) (by decide)))) fun c47 =>
                      absurd (c2.symm.trans c42) (by decide)))) fun c46 =>
                    rd_if (fun c48 => rd_dec (by decide) (rd_dec (lq _ (by simp only [List.length_set]) (by decide)) (absurd (c2.symm.trans c42) (by decide)))) fun c48 =>
                      absurd (c2.symm.trans c42) (by decide)))) fun c45 =>
                  rd_if (fun c49 => rd_dec (by decide) (rd_dec (lq _ (by simp only [List.length_set]) (by decide)) (rd_if (fun c50 => rd_dec (by decide) (rd_dec (lq _ (by simp only [List.length_set]) (by decide)) (absurd (c2.symm.trans c42) (by decide)))) fun c50 =>
                      absurd (c2.symm.trans c42) (by decide)))) fun c49 =>
                    rd_if (fun c51 => rd_dec (by decide) (rd_dec (lq _ (by simp only [List.length_set]) (by decide)) (absurd (c2.symm.trans c42) (by decide)))) fun c51 =>
                      absurd (c2.symm.trans c42) (by decide)) fun c44 =>
                rd_if (fun c52 => rd_dec (by decide) (rd_dec (lq _ (by simp only [List.length_set]) (by decide)) (rd_if (fun c53 => rd_dec (by decide) (rd_dec (lq _ (by simp only [List.length_set]) (by decide)) (absurd (c2.symm.trans c42) (by decide)))) fun c53 =>
                    absurd (c2.symm.trans c42) (by decide)))) fun c52 =>
                  rd_if (fun c54 => rd_dec (by decide) (rd_dec (lq _ (by simp only [List.length_set]) (by decide)) (absurd (c2.symm.trans c42) (by decide)))) fun c54 =>
                    absurd (c2.symm.trans c42) (by decide)) fun c43 =>
              rd_if (fun c55 => rd_dec (by decide) (rd_dec (lq _ (by simp only [List.length_set]) (by decide)) (rd_if (fun c56 => rd_dec (by decide) (rd_dec (lq _ (by simp only [List.length_set]) (by decide)) (absurd (c2.symm.trans c42) (by decide)))) fun c56 =>
                  absurd (c2.symm.trans c42) (by decide)))) fun c55 =>
                rd_if (fun c57 => rd_dec (by decide) (rd_dec (lq _ (by simp only [List.length_set]) (by decide)) (absurd (c2.symm.trans c42) (by decide)))) fun c57 =>
                  absurd (c2.symm.trans c42) (by decide)) fun c42 =>
            rd_if (fun c58 => rd_dec (by decide) (rd_dec (lq _ (by simp only [List.length_set]) (by decide)) (rd_if (fun c59 => rd_dec (by decide) (rd_dec (lq _ (by simp only [List.length_set]) (by decide)) (rd_again (done (.l _) (st1 c1 (bS c42) (mS c42) (iT c58) (oT c59))) hme))) fun c59 =>
                rd_again (done (.l _) (st1 c1 (bS c42) (mS c42) (iT c58) (oF c59))) hme))) fun c58 =>
              rd_if (fun c60 => rd_dec (by decide) (rd_dec (lq _ (by simp only [List.length_set]) (by decide)) (rd_again (done (.l _) (st1 c1 (bS c42) (mS c42) (iF c58) (oT c60))) hme))) fun c60 =>
                rd_again (done (.l _) (st1 c1 (bS c42) (mS c42) (iF c58) (oF c60))) hme
    · rw [← h, show ((ca.L.length : Int) - (k : Int)).toNat = 0 by omega]
      rfl
  · cases h
theorem outF_step (br : List (List D)) {j : Nat} (hj : j < 9) (o : List (List D)) : outF br j (9 - j) o = outF br (j + 1) (9 - (j + 1)) (if bx (br.getD j []) 0 then o ++ [[.i (j : Int)]] else o) := by
  obtain ⟨k, hk⟩ : ∃ k, 9 - j = k + 1 := ⟨8 - j, by omega⟩
  rw [hk, show 9 - (j + 1) = k by omega]
  rfl
theorem outF_ne (br : List (List D)) : ∀ (k j : Nat) (o : List (List D)), o ≠ [] → (outF br j k o).isEmpty = false
  | 0, j, o, h => by cases o <;> first | exact absurd rfl h | rfl
  | k + 1, j, o, h => outF_ne br k (j + 1) _ (by split <;> simp [h])
theorem ok60_28 (n : Nat) : LoopSim C (n + 1) 60 (loopOf C.P 60 28) (mkL l60_28 G60_28) := by
  refine loop_ofK hC (sp := sp60) (lp := lp60) (sw := sw60) ⟨ok82 n, ok83 n, trivial⟩ trivial 0 [] (by kernel_rfl) rfl (fun k hk => by cases hk) (by kernel_rfl) (fun ds => if (ds.getD 0 default).I = 0 then 9 - (ds.getD 2 default).I.toNat else 9 - (ds.getD 3 default).I.toNat) fun ds rr h => ?_
  unfold G60_28 at h
  split at h
  · rename_i j nn i br
    obtain ⟨hp, h⟩ := need_some h
    rw [yes_iff] at hp
    obtain ⟨hj, hn, hbl, hi0, hi1⟩ := hp
    have hb := big_eq
    obtain ⟨k, hk⟩ : ∃ k : Nat, i.I = k := ⟨i.I.toNat, by omega⟩
    have hm : (if ([j, nn, i, br].getD 0 default).I = 0 then 9 - ([j, nn, i, br].getD 2 default).I.toNat else 9 - ([j, nn, i, br].getD 3 default).I.toNat) = 9 - k := by
      show (if j.I = 0 then 9 - i.I.toNat else _) = _
      rw [if_pos hj, hk, Int.toNat_natCast]
    refine ⟨by rw [fuelC, hm]; omega, ?_⟩
    rw [roundTK_head' (j := j) (n := 0) hj (by decide), show roundTK C (mkTab sp60 lp60 sw60) 60 (loopOf C.P 60 28) 0 l60_28 [.i 0, nn, i, br] = _ from t60_28_0 nn i br]
    have e9 : (((9 : Int).toNat : Nat) : Int) = 9 := rfl
    simp only [hk, hn, Int.toNat_natCast, e9] at h hi0 hi1 ⊢
    refine rd_if (fun hlt => ?_) fun hge => rd_out ?_
    · have hk2 : k < 9 := by omega
      rw [wrap_succ (by omega), outF_step _ hk2] at *
      refine rd_dec (by omega) (rd_dec (by omega) (rd_ite (fun c0 => ?_) fun c0 => ?_))
      · refine rd_need rfl (rd_false rfl (rd_need rfl (rd_again ((need_yes ⟨rfl, rfl, hbl, ⟨by simp only [I_i]; omega, by simp only [I_i]; omega⟩, rfl, by simp only [L_l, I_i, List.length_singleton]; omega⟩).trans ?_) ?_)))
        · rw [← h, show bx (br.L.getD k []) 0 = true from c0, if_pos rfl, run_ite, if_neg (by rw [outF_ne _ _ _ _ (by simp)]; exact Bool.false_ne_true)]
          rfl
        · rw [hm]
          show 9 - (k + 1) < 9 - k
          omega
      · refine rd_again ((need_yes ⟨rfl, rfl, hbl, by simp only [I_i]; omega, by simp only [I_i]; omega⟩).trans ?_) ?_
        · rw [← h, show bx (br.L.getD k []) 0 = false from c0, if_neg Bool.false_ne_true]
          rfl
        · rw [hm]
          show 9 - (k + 1) < 9 - k
          omega
    · rw [← h, show 9 - k = 0 by omega]
      rfl
  · rename_i j nn m i br o
    obtain ⟨hp, h⟩ := need_some h
    rw [yes_iff] at hp
    obtain ⟨hj, hn, hbl, ⟨hi0, hi1⟩, hmo, hol⟩ := hp
    have hb := big_eq
    obtain ⟨k, hk⟩ : ∃ k : Nat, i.I = k := ⟨i.I.toNat, by omega⟩
    have hm : (if ([j, nn, m, i, br, o].getD 0 default).I = 0 then 9 - ([j, nn, m, i, br, o].getD 2 default).I.toNat else 9 - ([j, nn, m, i, br, o].getD 3 default).I.toNat) = 9 - k := by
      show (if j.I = 0 then _ else 9 - i.I.toNat) = _
      rw [if_neg (by omega), hk, Int.toNat_natCast]
    refine ⟨by rw [fuelC, hm]; omega, ?_⟩
    rw [roundTK_head' (j := j) (n := 1) hj (by decide), show roundTK C (mkTab sp60 lp60 sw60) 60 (loopOf C.P 60 28) 0 l60_28 [.i 1, nn, m, i, br, o] = _ from t60_28_1 nn m i br o]
    have e9 : (((9 : Int).toNat : Nat) : Int) = 9 := rfl
    have e8 : Try.prog.types[109].bytes = 8 := by kernel_rfl
    simp only [hk, hn, hmo, Int.toNat_natCast, e9, e8, List.length_singleton, List.take_length] at h hi0 hi1 hol ⊢
    refine rd_if (fun hlt => ?_) fun hge => rd_out ?_
    · have hk2 : k < 9 := by omega
      rw [wrap_succ (by omega), outF_step _ hk2] at *
      refine rd_dec (by omega) (rd_dec (by omega) (rd_ite (fun c0 => ?_) fun c0 => ?_))
      · refine rd_need rfl (rd_false rfl (rd_dec ⟨Nat.le_refl _, by simp only [List.take, List.length_singleton]; omega, by simp only [List.take, List.length_singleton]; omega⟩ (rd_again ((need_yes ⟨rfl, rfl, hbl, ⟨by simp only [I_i]; omega, by simp only [I_i]; omega⟩, by simp only [L_l, I_i, List.length_append], by simp only [L_l, I_i, List.length_append, List.take, List.length_singleton]; omega⟩).trans ?_) ?_)))
        · rw [← h, show bx (br.L.getD k []) 0 = true from c0, if_pos rfl]
          rfl
        · rw [hm]
          show 9 - (k + 1) < 9 - k
          omega
      · refine rd_again ((need_yes ⟨rfl, rfl, hbl, ⟨by simp only [I_i]; omega, by simp only [I_i]; omega⟩, rfl, by simp only [L_l, I_i]; omega⟩).trans ?_) ?_
        · rw [← h, show bx (br.L.getD k []) 0 = false from c0, if_neg Bool.false_ne_true]
          rfl
        · rw [hm]
          show 9 - (k + 1) < 9 - k
          omega
    · rw [← h, show 9 - k = 0 by omega]
      rfl
  · cases h
theorem ok60 (n : Nat) : FnOK C (n + 2) 60 (mkF s60 G60) := by
  refine fn_ofS hC (sp := sp60) (lp := lp60) (sw := sw60) ⟨ok82 n, ok83 n, trivial⟩ trivial (by kernel_rfl) [6, 14, 28] (by kernel_rfl) (by kernel_rfl) (fun k hk L hL => by
    simp at hk
    rcases hk with rfl | rfl | rfl <;> cases hL
    · exact ok60_6 n
    · exact ok60_14 n
    · exact ok60_28 n) fun ds r hh => ?_
  unfold G60 at hh
  split at hh
  · rename_i p0 p1 p2 p3 p4 p5 ev ca car t
    obtain ⟨hp, hh⟩ := need_some hh
    rw [yes_iff] at hp
    obtain ⟨hpl, hca, hev, hoc, ht, hcar⟩ := hp
    have hpl' := hpl
    unfold okPl at hpl'
    refine (congrArg T.run (t60 p0 p1 p2 p3 p4 p5 ev ca car t)).trans ?_
    rw [← hh]
    have e9 : (((9 : Int).toNat : Nat) : Int) = 9 := rfl
    have eb : ((List.replicate (9 : Int).toNat [D.b false]).set (1 : Int).toNat [.b (saysB 1 2 0 true ev.L)]).set (4 : Int).toNat [.b (saysB 6 7 0 true ev.L)] = br0 ev.L := rfl
    have z0 : (0 : Int).toNat = 0 := rfl
    have z1 : (1 : Int).toNat = 1 := rfl
    simp only [upd1, eb, Int.sub_zero, z0, z1, Int.toNat_natCast]
    have lb : (br0 ev.L).length = 9 := rfl
    have lp : (postsF p1.I t.I ev.L 0 p0.I.toNat (br0 ev.L)).length = 9 := (postsF_len ..).trans lb
    have lc : (carsF p0.I p2.I p3.I p4.I car.I t.I ca.L 0 p5.I.toNat (postsF p1.I t.I ev.L 0 p0.I.toNat (br0 ev.L))).length = 9 := (carsF_len ..).trans lp
    refine go_need rfl (go_yes hev (go_need rfl (go_need rfl (go_yes hev (go_need rfl (go_need rfl (go_yes ⟨hpl, ⟨by omega, by omega⟩, rfl, lb, hev, ht⟩ (go_yes ⟨hpl, ⟨by omega, by omega⟩, rfl, lp, hca, hoc, ht⟩ (go_yes ⟨trivial, rfl, lc, by omega, by omega⟩ ?_)))))))))
    rfl
  · cases hh
end Go.Proofs.Ytgmefblkmidglaa
namespace Go.Proofs.Ytgmefblkmidglaa
open Go.Lite
set_option linter.unusedVariables false
set_option maxRecDepth 100000
theorem t38 (a b c d e f g h i j k l m n o p q r s t u v : D) : (fnTW C tab38 38 s38 [a, b, c, d, e, f, g, h, i, j, k, l, m, n, o, p, q, r, s, t, u, v]).run =
  T.run (T.need (decide (q.I.toNat ≤ t.L.length)) (T.need (decide (r.I.toNat ≤ u.L.length)) (T.need (decide (s.I.toNat ≤ v.L.length)) (T.ite (!decide (0 < List.length (List.take s.I.toNat v.L))) (T.leaf [D.i 1, D.i e.I, D.i f.I, D.i g.I, D.i h.I, D.i i.I, D.i j.I, D.b k.B, D.i l.I, D.b m.B, D.b n.B, D.i o.I, D.b p.B, D.i (q.I.toNat : Int), D.i (r.I.toNat : Int), D.i (s.I.toNat : Int), D.l t.L, D.l u.L, D.l v.L]) (T.need (decide (q.I.toNat ≤ t.L.length)) (T.need (decide (r.I.toNat ≤ u.L.length)) (T.need (decide (s.I.toNat ≤ v.L.length)) (T.need (yes (okPl e.I f.I g.I h.I i.I j.I)) (T.ite (!evB e.I j.I a.I b.I c.I d.I) (T.leaf [D.i 2, D.i e.I, D.i f.I, D.i g.I, D.i h.I, D.i i.I, D.i j.I, D.b k.B, D.i l.I, D.b m.B, D.b n.B, D.i o.I, D.b p.B, D.i (q.I.toNat : Int), D.i (r.I.toNat : Int), D.i (s.I.toNat : Int), D.l t.L, D.l u.L, D.l v.L]) (T.need (decide ((0 : Int) ≤ d.I ∧ d.I < (s.I.toNat : Int))) (T.ite (a.I == (1 : Int)) (T.ite (a.I == (1 : Int)) (T.need (yes ((q.I.toNat : Int) = (t.L.length : Int) ∧ (r.I.toNat : Int) = (u.L.length : Int) ∧ (s.I.toNat : Int) = (v.L.length : Int))) (T.leaf [D.i 0, D.i e.I, D.i f.I, D.i g.I, D.i h.I, D.i i.I, D.i j.I, D.b (hearV k.B m.B l.I (a.I == (1 : Int)) false b.I), D.i (mxI l.I b.I), D.b true, D.b n.B, D.i o.I, D.b p.B, D.i (↑(Int.toNat (q.I.toNat : Int)) : Int), D.i (↑(Int.toNat (r.I.toNat : Int)) : Int), D.i (↑(Int.toNat (s.I.toNat : Int)) : Int), D.l t.L, D.l u.L, D.l v.L])) (T.ite (a.I == (6 : Int)) (T.ite (a.I == (6 : Int)) (T.need (yes ((q.I.toNat : Int) = (t.L.length : Int) ∧ (r.I.toNat : Int) = (u.L.length : Int) ∧ (s.I.toNat : Int) = (v.L.length : Int))) (T.leaf [D.i 0, D.i e.I, D.i f.I, D.i g.I, D.i h.I, D.i i.I, D.i j.I, D.b k.B, D.i l.I, D.b m.B, D.b (hearV n.B p.B o.I (a.I == (6 : Int)) false b.I), D.i (mxI o.I b.I), D.b true, D.i (↑(Int.toNat (q.I.toNat : Int)) : Int), D.i (↑(Int.toNat (r.I.toNat : Int)) : Int), D.i (↑(Int.toNat (s.I.toNat : Int)) : Int), D.l t.L, D.l u.L, D.l v.L])) (T.ite (a.I == (3 : Int)) (T.need (yes (((q.I.toNat : Int) = (t.L.length : Int) ∧ (r.I.toNat : Int) = (u.L.length : Int) ∧ (s.I.toNat : Int) = (v.L.length : Int)) ∧ (0 : Int) ≤ c.I ∧ c.I < (u.L.length : Int))) (T.leaf [D.i 0, D.i e.I, D.i f.I, D.i g.I, D.i h.I, D.i i.I, D.i j.I, D.b k.B, D.i l.I, D.b m.B, D.b n.B, D.i o.I, D.b p.B, D.i (↑(Int.toNat (q.I.toNat : Int)) : Int), D.i (↑(Int.toNat (r.I.toNat : Int)) : Int), D.i (↑(Int.toNat (s.I.toNat : Int)) : Int), D.l t.L, D.l (hearL u.L c.I.toNat true true b.I), D.l v.L])) (T.ite (a.I == (4 : Int)) (T.ite (a.I == (4 : Int)) (T.need (decide ((0 : Int) ≤ c.I ∧ c.I < (q.I.toNat : Int))) (T.need (yes ((0 : Int) ≤ (c.I.toNat : Int) ∧ (c.I.toNat : Int) < (t.L.length : Int))) (T.need (yes (((q.I.toNat : Int) = (↑(List.length (hearL t.L (Int.toNat (c.I.toNat : Int)) (a.I == (4 : Int)) true b.I)) : Int) ∧ (r.I.toNat : Int) = (u.L.length : Int) ∧ (s.I.toNat : Int) = (v.L.length : Int)) ∧ (0 : Int) ≤ c.I ∧ c.I < (u.L.length : Int))) (T.leaf [D.i 0, D.i e.I, D.i f.I, D.i g.I, D.i h.I, D.i i.I, D.i j.I, D.b k.B, D.i l.I, D.b m.B, D.b n.B, D.i o.I, D.b p.B, D.i (↑(Int.toNat (q.I.toNat : Int)) : Int), D.i (↑(Int.toNat (r.I.toNat : Int)) : Int), D.i (↑(Int.toNat (s.I.toNat : Int)) : Int), D.l (hearL t.L (Int.toNat (c.I.toNat : Int)) (a.I == (4 : Int)) true b.I), D.l (hearL u.L c.I.toNat true true b.I), D.l v.L])))) (T.ite (a.I == (8 : Int)) (T.need (decide (d.I.toNat < v.L.length)) (T.ite (D.B (List.getD (List.getD v.L d.I.toNat []) 0 default)) (T.need (decide (d.I.toNat < v.L.length)) (T.need (decide (d.I.toNat < v.L.length)) (T.need (yes (((q.I.toNat : Int) = (t.L.length : Int) ∧ (r.I.toNat : Int) = (u.L.length : Int) ∧ (s.I.toNat : Int) = (↑(List.length (List.set v.L d.I.toNat (updC (List.getD v.L d.I.toNat []) [D.i (if c.I > D.I (List.getD (List.getD v.L d.I.toNat []) (0 + 1 + 1) default) then c.I else D.I (List.getD (List.getD v.L d.I.toNat []) (0 + 1 + 1) default))] (0 + 2) 0 (List.length [K.bool, K.int IntKind.i64, K.int IntKind.i64, K.bool, K.bool])))) : Int)) ∧ (0 : Int) ≤ c.I ∧ c.I < (u.L.length : Int))) (T.leaf [D.i 0, D.i e.I, D.i f.I, D.i g.I, D.i h.I, D.i i.I, D.i j.I, D.b k.B, D.i l.I, D.b m.B, D.b n.B, D.i o.I, D.b p.B, D.i (↑(Int.toNat (q.I.toNat : Int)) : Int), D.i (↑(Int.toNat (r.I.toNat : Int)) : Int), D.i (↑(Int.toNat (s.I.toNat : Int)) : Int), D.l t.L, D.l (hearL u.L c.I.toNat true true b.I), D.l (List.set v.L d.I.toNat (updC (List.getD v.L d.I.toNat []) [D.i (if c.I > D.I (List.getD (List.getD v.L d.I.toNat []) (0 + 1 + 1) default) then c.I else D.I (List.getD (List.getD v.L d.I.toNat []) (0 + 1 + 1) default))] (0 + 2) 0 (List.length [K.bool, K.int IntKind.i64, K.int IntKind.i64, K.bool, K.bool])))])))) (T.need (yes (((q.I.toNat : Int) = (t.L.length : Int) ∧ (r.I.toNat : Int) = (u.L.length : Int) ∧ (s.I.toNat : Int) = (v.L.length : Int)) ∧ (0 : Int) ≤ c.I ∧ c.I < (u.L.length : Int))) (T.leaf [D.i 0, D.i e.I, D.i f.I, D.i g.I, D.i h.I, D.i i.I, D.i j.I, D.b k.B, D.i l.I, D.b m.B, D.b n.B, D.i o.I, D.b p.B, D.i (↑(Int.toNat (q.I.toNat : Int)) : Int), D.i (↑(Int.toNat (r.I.toNat : Int)) : Int), D.i (↑(Int.toNat (s.I.toNat : Int)) : Int), D.l t.L, D.l (hearL u.L c.I.toNat true true b.I), D.l v.L])))) (T.ite (a.I == (9 : Int)) (T.need (decide (d.I.toNat < v.L.length)) (T.ite (D.B (List.getD (List.getD v.L d.I.toNat []) (0 + 1 + 1 + 1) default)) (T.need (decide (d.I.toNat < v.L.length)) (T.leaf [D.i 0, D.i e.I, D.i f.I, D.i g.I, D.i h.I, D.i i.I, D.i j.I, D.b k.B, D.i l.I, D.b m.B, D.b n.B, D.i o.I, D.b p.B, D.i (q.I.toNat : Int), D.i (r.I.toNat : Int), D.i (s.I.toNat : Int), D.l t.L, D.l u.L, D.l (List.set v.L d.I.toNat (updC (List.getD v.L d.I.toNat []) [D.b true] (0 + 3) 0 (List.length [K.bool, K.int IntKind.i64, K.int IntKind.i64, K.bool, K.bool])))])) (T.need (decide (d.I.toNat < v.L.length)) (T.need (decide (d.I.toNat < v.L.length)) (T.leaf [D.i 0, D.i e.I, D.i f.I, D.i g.I, D.i h.I, D.i i.I, D.i j.I, D.b k.B, D.i l.I, D.b m.B, D.b n.B, D.i o.I, D.b p.B, D.i (q.I.toNat : Int), D.i (r.I.toNat : Int), D.i (s.I.toNat : Int), D.l t.L, D.l u.L, D.l (List.set v.L d.I.toNat (updC (List.getD v.L d.I.toNat []) [D.b (D.B (List.getD (List.getD v.L d.I.toNat []) 0 default))] (0 + 3) 0 (List.length [K.bool, K.int IntKind.i64, K.int IntKind.i64, K.bool, K.bool])))]))))) (T.ite (a.I == (10 : Int)) (T.need (decide (d.I.toNat < v.L.length)) (T.ite (D.B (List.getD (List.getD v.L d.I.toNat []) (0 + 1 + 1 + 1 + 1) default)) (T.need (decide (d.I.toNat < v.L.length)) (T.leaf [D.i 0, D.i e.I, D.i f.I, D.i g.I, D.i h.I, D.i i.I, D.i j.I, D.b k.B, D.i l.I, D.b m.B, D.b n.B, D.i o.I, D.b p.B, D.i (q.I.toNat : Int), D.i (r.I.toNat : Int), D.i (s.I.toNat : Int), D.l t.L, D.l u.L, D.l (List.set v.L d.I.toNat (updC (List.getD v.L d.I.toNat []) [D.b true] (0 + 4) 0 (List.length [K.bool, K.int IntKind.i64, K.int IntKind.i64, K.bool, K.bool])))])) (T.need (decide (d.I.toNat < v.L.length)) (T.need (decide (d.I.toNat < v.L.length)) (T.leaf [D.i 0, D.i e.I, D.i f.I, D.i g.I, D.i h.I, D.i i.I, D.i j.I, D.b k.B, D.i l.I, D.b m.B, D.b n.B, D.i o.I, D.b p.B, D.i (q.I.toNat : Int), D.i (r.I.toNat : Int), D.i (s.I.toNat : Int), D.l t.L, D.l u.L, D.l (List.set v.L d.I.toNat (updC (List.getD v.L d.I.toNat []) [D.b (D.B (List.getD (List.getD v.L d.I.toNat []) 0 default))] (0 + 4) 0 (List.length [K.bool, K.int IntKind.i64, K.int IntKind.i64, K.bool, K.bool])))]))))) (T.leaf [D.i 0, D.i e.I, D.i f.I, D.i g.I, D.i h.I, D.i i.I, D.i j.I, D.b k.B, D.i l.I, D.b m.B, D.b n.B, D.i o.I, D.b p.B, D.i (q.I.toNat : Int), D.i (r.I.toNat : Int), D.i (s.I.toNat : Int), D.l t.L, D.l u.L, D.l v.L]))))) (T.ite (a.I == (5 : Int)) (T.need (decide ((0 : Int) ≤ c.I ∧ c.I < (q.I.toNat : Int))) (T.need (yes ((0 : Int) ≤ (c.I.toNat : Int) ∧ (c.I.toNat : Int) < (t.L.length : Int))) (T.need (yes (((q.I.toNat : Int) = (↑(List.length (hearL t.L (Int.toNat (c.I.toNat : Int)) (a.I == (4 : Int)) true b.I)) : Int) ∧ (r.I.toNat : Int) = (u.L.length : Int) ∧ (s.I.toNat : Int) = (v.L.length : Int)) ∧ (0 : Int) ≤ c.I ∧ c.I < (u.L.length : Int))) (T.leaf [D.i 0, D.i e.I, D.i f.I, D.i g.I, D.i h.I, D.i i.I, D.i j.I, D.b k.B, D.i l.I, D.b m.B, D.b n.B, D.i o.I, D.b p.B, D.i (↑(Int.toNat (q.I.toNat : Int)) : Int), D.i (↑(Int.toNat (r.I.toNat : Int)) : Int), D.i (↑(Int.toNat (s.I.toNat : Int)) : Int), D.l (hearL t.L (Int.toNat (c.I.toNat : Int)) (a.I == (4 : Int)) true b.I), D.l (hearL u.L c.I.toNat true true b.I), D.l v.L])))) (T.ite (a.I == (8 : Int)) (T.need (decide (d.I.toNat < v.L.length)) (T.ite (D.B (List.getD (List.getD v.L d.I.toNat []) 0 default)) (T.need (decide (d.I.toNat < v.L.length)) (T.need (decide (d.I.toNat < v.L.length)) (T.need (yes (((q.I.toNat : Int) = (t.L.length : Int) ∧ (r.I.toNat : Int) = (u.L.length : Int) ∧ (s.I.toNat : Int) = (↑(List.length (List.set v.L d.I.toNat (updC (List.getD v.L d.I.toNat []) [D.i (if c.I > D.I (List.getD (List.getD v.L d.I.toNat []) (0 + 1 + 1) default) then c.I else D.I (List.getD (List.getD v.L d.I.toNat []) (0 + 1 + 1) default))] (0 + 2) 0 (List.length [K.bool, K.int IntKind.i64, K.int IntKind.i64, K.bool, K.bool])))) : Int)) ∧ (0 : Int) ≤ c.I ∧ c.I < (u.L.length : Int))) (T.leaf [D.i 0, D.i e.I, D.i f.I, D.i g.I, D.i h.I, D.i i.I, D.i j.I, D.b k.B, D.i l.I, D.b m.B, D.b n.B, D.i o.I, D.b p.B, D.i (↑(Int.toNat (q.I.toNat : Int)) : Int), D.i (↑(Int.toNat (r.I.toNat : Int)) : Int), D.i (↑(Int.toNat (s.I.toNat : Int)) : Int), D.l t.L, D.l (hearL u.L c.I.toNat true true b.I), D.l (List.set v.L d.I.toNat (updC (List.getD v.L d.I.toNat []) [D.i (if c.I > D.I (List.getD (List.getD v.L d.I.toNat []) (0 + 1 + 1) default) then c.I else D.I (List.getD (List.getD v.L d.I.toNat []) (0 + 1 + 1) default))] (0 + 2) 0 (List.length [K.bool, K.int IntKind.i64, K.int IntKind.i64, K.bool, K.bool])))])))) (T.need (yes (((q.I.toNat : Int) = (t.L.length : Int) ∧ (r.I.toNat : Int) = (u.L.length : Int) ∧ (s.I.toNat : Int) = (v.L.length : Int)) ∧ (0 : Int) ≤ c.I ∧ c.I < (u.L.length : Int))) (T.leaf [D.i 0, D.i e.I, D.i f.I, D.i g.I, D.i h.I, D.i i.I, D.i j.I, D.b k.B, D.i l.I, D.b m.B, D.b n.B, D.i o.I, D.b p.B, D.i (↑(Int.toNat (q.I.toNat : Int)) : Int), D.i (↑(Int.toNat (r.I.toNat : Int)) : Int), D.i (↑(Int.toNat (s.I.toNat : Int)) : Int), D.l t.L, D.l (hearL u.L c.I.toNat true true b.I), D.l v.L])))) (T.ite (a.I == (9 : Int)) (T.need (decide (d.I.toNat < v.L.length)) (T.ite (D.B (List.getD (List.getD v.L d.I.toNat []) (0 + 1 + 1 + 1) default)) (T.need (decide (d.I.toNat < v.L.length)) (T.leaf [D.i 0, D.i e.I, D.i f.I, D.i g.I, D.i h.I, D.i i.I, D.i j.I, D.b k.B, D.i l.I, D.b m.B, D.b n.B, D.i o.I, D.b p.B, D.i (q.I.toNat : Int), D.i (r.I.toNat : Int), D.i (s.I.toNat : Int), D.l t.L, D.l u.L, D.l (List.set v.L d.I.toNat (updC (List.getD v.L d.I.toNat []) [D.b true] (0 + 3) 0 (List.length [K.bool, K.int IntKind.i64, K.int IntKind.i64, K.bool, K.bool])))])) (T.need (decide (d.I.toNat < v.L.length)) (T.need (decide (d.I.toNat < v.L.length)) (T.leaf [D.i 0, D.i e.I, D.i f.I, D.i g.I, D.i h.I, D.i i.I, D.i j.I, D.b k.B, D.i l.I, D.b m.B, D.b n.B, D.i o.I, D.b p.B, D.i (q.I.toNat : Int), D.i (r.I.toNat : Int), D.i (s.I.toNat : Int), D.l t.L, D.l u.L, D.l (List.set v.L d.I.toNat (updC (List.getD v.L d.I.toNat []) [D.b (D.B (List.getD (List.getD v.L d.I.toNat []) 0 default))] (0 + 3) 0 (List.length [K.bool, K.int IntKind.i64, K.int IntKind.i64, K.bool, K.bool])))]))))) (T.ite (a.I == (10 : Int)) (T.need (decide (d.I.toNat < v.L.length)) (T.ite (D.B (List.getD (List.getD v.L d.I.toNat []) (0 + 1 + 1 + 1 + 1) default)) (T.need (decide (d.I.toNat < v.L.length)) (T.leaf [D.i 0, D.i e.I, D.i f.I, D.i g.I, D.i h.I, D.i i.I, D.i j.I, D.b k.B, D.i l.I, D.b m.B, D.b n.B, D.i o.I, D.b p.B, D.i (q.I.toNat : Int), D.i (r.I.toNat : Int), D.i (s.I.toNat : Int), D.l t.L, D.l u.L, D.l (List.set v.L d.I.toNat (updC (List.getD v.L d.I.toNat []) [D.b true] (0 + 4) 0 (List.length [K.bool, K.int IntKind.i64, K.int IntKind.i64, K.bool, K.bool])))])) (T.need (decide (d.I.toNat < v.L.length)) (T.need (decide (d.I.toNat < v.L.length)) (T.leaf [D.i 0, D.i e.I, D.i f.I, D.i g.I, D.i h.I, D.i i.I, D.i j.I, D.b k.B, D.i l.I, D.b m.B, D.b n.B, D.i o.I, D.b p.B, D.i (q.I.toNat : Int), D.i (r.I.toNat : Int), D.i (s.I.toNat : Int), D.l t.L, D.l u.L, D.l (List.set v.L d.I.toNat (updC (List.getD v.L d.I.toNat []) [D.b (D.B (List.getD (List.getD v.L d.I.toNat []) 0 default))] (0 + 4) 0 (List.length [K.bool, K.int IntKind.i64, K.int IntKind.i64, K.bool, K.bool])))]))))) (T.leaf [D.i 0, D.i e.I, D.i f.I, D.i g.I, D.i h.I, D.i i.I, D.i j.I, D.b k.B, D.i l.I, D.b m.B, D.b n.B, D.i o.I, D.b p.B, D.i (q.I.toNat : Int), D.i (r.I.toNat : Int), D.i (s.I.toNat : Int), D.l t.L, D.l u.L, D.l v.L])))))))) (T.ite (a.I == (7 : Int)) (T.need (yes ((q.I.toNat : Int) = (t.L.length : Int) ∧ (r.I.toNat : Int) = (u.L.length : Int) ∧ (s.I.toNat : Int) = (v.L.length : Int))) (T.leaf [D.i 0, D.i e.I, D.i f.I, D.i g.I, D.i h.I, D.i i.I, D.i j.I, D.b k.B, D.i l.I, D.b m.B, D.b (hearV n.B p.B o.I (a.I == (6 : Int)) false b.I), D.i (mxI o.I b.I), D.b true, D.i (↑(Int.toNat (q.I.toNat : Int)) : Int), D.i (↑(Int.toNat (r.I.toNat : Int)) : Int), D.i (↑(Int.toNat (s.I.toNat : Int)) : Int), D.l t.L, D.l u.L, D.l v.L])) (T.ite (a.I == (3 : Int)) (T.need (yes (((q.I.toNat : Int) = (t.L.length : Int) ∧ (r.I.toNat : Int) = (u.L.length : Int) ∧ (s.I.toNat : Int) = (v.L.length : Int)) ∧ (0 : Int) ≤ c.I ∧ c.I < (u.L.length : Int))) (T.leaf [D.i 0, D.i e.I, D.i f.I, D.i g.I, D.i h.I, D.i i.I, D.i j.I, D.b k.B, D.i l.I, D.b m.B, D.b n.B, D.i o.I, D.b p.B, D.i (↑(Int.toNat (q.I.toNat : Int)) : Int), D.i (↑(Int.toNat (r.I.toNat : Int)) : Int), D.i (↑(Int.toNat (s.I.toNat : Int)) : Int), D.l t.L, D.l (hearL u.L c.I.toNat true true b.I), D.l v.L])) (T.ite (a.I == (4 : Int)) (T.ite (a.I == (4 : Int)) (T.need (decide ((0 : Int) ≤ c.I ∧ c.I < (q.I.toNat : Int))) (T.need (yes ((0 : Int) ≤ (c.I.toNat : Int) ∧ (c.I.toNat : Int) < (t.L.length : Int))) (T.need (yes (((q.I.toNat : Int) = (↑(List.length (hearL t.L (Int.toNat (c.I.toNat : Int)) (a.I == (4 : Int)) true b.I)) : Int) ∧ (r.I.toNat : Int) = (u.L.length : Int) ∧ (s.I.toNat : Int) = (v.L.length : Int)) ∧ (0 : Int) ≤ c.I ∧ c.I < (u.L.length : Int))) (T.leaf [D.i 0, D.i e.I, D.i f.I, D.i g.I, D.i h.I, D.i i.I, D.i j.I, D.b k.B, D.i l.I, D.b m.B, D.b n.B, D.i o.I, D.b p.B, D.i (↑(Int.toNat (q.I.toNat : Int)) : Int), D.i (↑(Int.toNat (r.I.toNat : Int)) : Int), D.i (↑(Int.toNat (s.I.toNat : Int)) : Int), D.l (hearL t.L (Int.toNat (c.I.toNat : Int)) (a.I == (4 : Int)) true b.I), D.l (hearL u.L c.I.toNat true true b.I), D.l v.L])))) (T.ite (a.I == (8 : Int)) (T.need (decide (d.I.toNat < v.L.length)) (T.ite (D.B (List.getD (List.getD v.L d.I.toNat []) 0 default)) (T.need (decide (d.I.toNat < v.L.length)) (T.need (decide (d.I.toNat < v.L.length)) (T.need (yes (((q.I.toNat : Int) = (t.L.length : Int) ∧ (r.I.toNat : Int) = (u.L.length : Int) ∧ (s.I.toNat : Int) = (↑(List.length (List.set v.L d.I.toNat (updC (List.getD v.L d.I.toNat []) [D.i (if c.I > D.I (List.getD (List.getD v.L d.I.toNat []) (0 + 1 + 1) default) then c.I else D.I (List.getD (List.getD v.L d.I.toNat []) (0 + 1 + 1) default))] (0 + 2) 0 (List.length [K.bool, K.int IntKind.i64, K.int IntKind.i64, K.bool, K.bool])))) : Int)) ∧ (0 : Int) ≤ c.I ∧ c.I < (u.L.length : Int))) (T.leaf [D.i 0, D.i e.I, D.i f.I, D.i g.I, D.i h.I, D.i i.I, D.i j.I, D.b k.B, D.i l.I, D.b m.B, D.b n.B, D.i o.I, D.b p.B, D.i (↑(Int.toNat (q.I.toNat : Int)) : Int), D.i (↑(Int.toNat (r.I.toNat : Int)) : Int), D.i (↑(Int.toNat (s.I.toNat : Int)) : Int), D.l t.L, D.l (hearL u.L c.I.toNat true true b.I), D.l (List.set v.L d.I.toNat (updC (List.getD v.L d.I.toNat []) [D.i (if c.I > D.I (List.getD (List.getD v.L d.I.toNat []) (0 + 1 + 1) default) then c.I else D.I (List.getD (List.getD v.L d.I.toNat []) (0 + 1 + 1) default))] (0 + 2) 0 (List.length [K.bool, K.int IntKind.i64, K.int IntKind.i64, K.bool, K.bool])))])))) (T.need (yes (((q.I.toNat : Int) = (t.L.length : Int) ∧ (r.I.toNat : Int) = (u.L.length : Int) ∧ (s.I.toNat : Int) = (v.L.length : Int)) ∧ (0 : Int) ≤ c.I ∧ c.I < (u.L.length : Int))) (T.leaf [D.i 0, D.i e.I, D.i f.I, D.i g.I, D.i h.I, D.i i.I, D.i j.I, D.b k.B, D.i l.I, D.b m.B, D.b n.B, D.i o.I, D.b p.B, D.i (↑(Int.toNat (q.I.toNat : Int)) : Int), D.i (↑(Int.toNat (r.I.toNat : Int)) : Int), D.i (↑(Int.toNat (s.I.toNat : Int)) : Int), D.l t.L, D.l (hearL u.L c.I.toNat true true b.I), D.l v.L])))) (T.ite (a.I == (9 : Int)) (T.need (decide (d.I.toNat < v.L.length)) (T.ite (D.B (List.getD (List.getD v.L d.I.toNat []) (0 + 1 + 1 + 1) default)) (T.need (decide (d.I.toNat < v.L.length)) (T.leaf [D.i 0, D.i e.I, D.i f.I, D.i g.I, D.i h.I, D.i i.I, D.i j.I, D.b k.B, D.i l.I, D.b m.B, D.b n.B, D.i o.I, D.b p.B, D.i (q.I.toNat : Int), D.i (r.I.toNat : Int), D.i (s.I.toNat : Int), D.l t.L, D.l u.L, D.l (List.set v.L d.I.toNat (updC (List.getD v.L d.I.toNat []) [D.b true] (0 + 3) 0 (List.length [K.bool, K.int IntKind.i64, K.int IntKind.i64, K.bool, K.bool])))])) (T.need (decide (d.I.toNat < v.L.length)) (T.need (decide (d.I.toNat < v.L.length)) (T.leaf [D.i 0, D.i e.I, D.i f.I, D.i g.I, D.i h.I, D.i i.I, D.i j.I, D.b k.B, D.i l.I, D.b m.B, D.b n.B, D.i o.I, D.b p.B, D.i (q.I.toNat : Int), D.i (r.I.toNat : Int), D.i (s.I.toNat : Int), D.l t.L, D.l u.L, D.l (List.set v.L d.I.toNat (updC (List.getD v.L d.I.toNat []) [D.b (D.B (List.getD (List.getD v.L d.I.toNat []) 0 default))] (0 + 3) 0 (List.length [K.bool, K.int IntKind.i64, K.int IntKind.i64, K.bool, K.bool])))]))))) (T.ite (a.I == (10 : Int)) (T.need (decide (d.I.toNat < v.L.length)) (T.ite (D.B (List.getD (List.getD v.L d.I.toNat []) (0 + 1 + 1 + 1 + 1) default)) (T.need (decide (d.I.toNat < v.L.length)) (T.leaf [D.i 0, D.i e.I, D.i f.I, D.i g.I, D.i h.I, D.i i.I, D.i j.I, D.b k.B, D.i l.I, D.b m.B, D.b n.B, D.i o.I, D.b p.B, D.i (q.I.toNat : Int), D.i (r.I.toNat : Int), D.i (s.I.toNat : Int), D.l t.L, D.l u.L, D.l (List.set v.L d.I.toNat (updC (List.getD v.L d.I.toNat []) [D.b true] (0 + 4) 0 (List.length [K.bool, K.int IntKind.i64, K.int IntKind.i64, K.bool, K.bool])))])) (T.need (decide (d.I.toNat < v.L.length)) (T.need (decide (d.I.toNat < v.L.length)) (T.leaf [D.i 0, D.i e.I, D.i f.I, D.i g.I, D.i h.I, D.i i.I, D.i j.I, D.b k.B, D.i l.I, D.b m.B, D.b n.B, D.i o.I, D.b p.B, D.i (q.I.toNat : Int), D.i (r.I.toNat : Int), D.i (s.I.toNat : Int), D.l t.L, D.l u.L, D.l (List.set v.L d.I.toNat (updC (List.getD v.L d.I.toNat []) [D.b (D.B (List.getD (List.getD v.L d.I.toNat []) 0 default))] (0 + 4) 0 (List.length [K.bool, K.int IntKind.i64, K.int IntKind.i64, K.bool, K.bool])))]))))) (T.leaf [D.i 0, D.i e.I, D.i f.I, D.i g.I, D.i h.I, D.i i.I, D.i j.I, D.b k.B, D.i l.I, D.b m.B, D.b n.B, D.i o.I, D.b p.B, D.i (q.I.toNat : Int), D.i (r.I.toNat : Int), D.i (s.I.toNat : Int), D.l t.L, D.l u.L, D.l v.L]))))) (T.ite (a.I == (5 : Int)) (T.need (decide ((0 : Int) ≤ c.I ∧ c.I < (q.I.toNat : Int))) (T.need (yes ((0 : Int) ≤ (c.I.toNat : Int) ∧ (c.I.toNat : Int) < (t.L.length : Int))) (T.need (yes (((q.I.toNat : Int) = (↑(List.length (hearL t.L (Int.toNat (c.I.toNat : Int)) (a.I == (4 : Int)) true b.I)) : Int) ∧ (r.I.toNat : Int) = (u.L.length : Int) ∧ (s.I.toNat : Int) = (v.L.length : Int)) ∧ (0 : Int) ≤ c.I ∧ c.I < (u.L.length : Int))) (T.leaf [D.i 0, D.i e.I, D.i f.I, D.i g.I, D.i h.I, D.i i.I, D.i j.I, D.b k.B, D.i l.I, D.b m.B, D.b n.B, D.i o.I, D.b p.B, D.i (↑(Int.toNat (q.I.toNat : Int)) : Int), D.i (↑(Int.toNat (r.I.toNat : Int)) : Int), D.i (↑(Int.toNat (s.I.toNat : Int)) : Int), D.l (hearL t.L (Int.toNat (c.I.toNat : Int)) (a.I == (4 : Int)) true b.I), D.l (hearL u.L c.I.toNat true true b.I), D.l v.L])))) (T.ite (a.I == (8 : Int)) (T.need (decide (d.I.toNat < v.L.length)) (T.ite (D.B (List.getD (List.getD v.L d.I.toNat []) 0 default)) (T.need (decide (d.I.toNat < v.L.length)) (T.need (decide (d.I.toNat < v.L.length)) (T.need (yes (((q.I.toNat : Int) = (t.L.length : Int) ∧ (r.I.toNat : Int) = (u.L.length : Int) ∧ (s.I.toNat : Int) = (↑(List.length (List.set v.L d.I.toNat (updC (List.getD v.L d.I.toNat []) [D.i (if c.I > D.I (List.getD (List.getD v.L d.I.toNat []) (0 + 1 + 1) default) then c.I else D.I (List.getD (List.getD v.L d.I.toNat []) (0 + 1 + 1) default))] (0 + 2) 0 (List.length [K.bool, K.int IntKind.i64, K.int IntKind.i64, K.bool, K.bool])))) : Int)) ∧ (0 : Int) ≤ c.I ∧ c.I < (u.L.length : Int))) (T.leaf [D.i 0, D.i e.I, D.i f.I, D.i g.I, D.i h.I, D.i i.I, D.i j.I, D.b k.B, D.i l.I, D.b m.B, D.b n.B, D.i o.I, D.b p.B, D.i (↑(Int.toNat (q.I.toNat : Int)) : Int), D.i (↑(Int.toNat (r.I.toNat : Int)) : Int), D.i (↑(Int.toNat (s.I.toNat : Int)) : Int), D.l t.L, D.l (hearL u.L c.I.toNat true true b.I), D.l (List.set v.L d.I.toNat (updC (List.getD v.L d.I.toNat []) [D.i (if c.I > D.I (List.getD (List.getD v.L d.I.toNat []) (0 + 1 + 1) default) then c.I else D.I (List.getD (List.getD v.L d.I.toNat []) (0 + 1 + 1) default))] (0 + 2) 0 (List.length [K.bool, K.int IntKind.i64, K.int IntKind.i64, K.bool, K.bool])))])))) (T.need (yes (((q.I.toNat : Int) = (t.L.length : Int) ∧ (r.I.toNat : Int) = (u.L.length : Int) ∧ (s.I.toNat : Int) = (v.L.length : Int)) ∧ (0 : Int) ≤ c.I ∧ c.I < (u.L.length : Int))) (T.leaf [D.i 0, D.i e.I, D.i f.I, D.i g.I, D.i h.I, D.i i.I, D.i j.I, D.b k.B, D.i l.I, D.b m.B, D.b n.B, D.i o.I, D.b p.B, D.i (↑(Int.toNat (q.I.toNat : Int)) : Int), D.i (↑(Int.toNat (r.I.toNat : Int)) : Int), D.i (↑(Int.toNat (s.I.toNat : Int)) : Int), D.l t.L, D.l (hearL u.L c.I.toNat true true b.I), D.l v.L])))) (T.ite (a.I == (9 : Int)) (T.need (decide (d.I.toNat < v.L.length)) (T.ite (D.B (List.getD (List.getD v.L d.I.toNat []) (0 + 1 + 1 + 1) default)) (T.need (decide (d.I.toNat < v.L.length)) (T.leaf [D.i 0, D.i e.I, D.i f.I, D.i g.I, D.i h.I, D.i i.I, D.i j.I, D.b k.B, D.i l.I, D.b m.B, D.b n.B, D.i o.I, D.b p.B, D.i (q.I.toNat : Int), D.i (r.I.toNat : Int), D.i (s.I.toNat : Int), D.l t.L, D.l u.L, D.l (List.set v.L d.I.toNat (updC (List.getD v.L d.I.toNat []) [D.b true] (0 + 3) 0 (List.length [K.bool, K.int IntKind.i64, K.int IntKind.i64, K.bool, K.bool])))])) (T.need (decide (d.I.toNat < v.L.length)) (T.need (decide (d.I.toNat < v.L.length)) (T.leaf [D.i 0, D.i e.I, D.i f.I, D.i g.I, D.i h.I, D.i i.I, D.i j.I, D.b k.B, D.i l.I, D.b m.B, D.b n.B, D.i o.I, D.b p.B, D.i (q.I.toNat : Int), D.i (r.I.toNat : Int), D.i (s.I.toNat : Int), D.l t.L, D.l u.L, D.l (List.set v.L d.I.toNat (updC (List.getD v.L d.I.toNat []) [D.b (D.B (List.getD (List.getD v.L d.I.toNat []) 0 default))] (0 + 3) 0 (List.length [K.bool, K.int IntKind.i64, K.int IntKind.i64, K.bool, K.bool])))]))))) (T.ite (a.I == (10 : Int)) (T.need (decide (d.I.toNat < v.L.length)) (T.ite (D.B (List.getD (List.getD v.L d.I.toNat []) (0 + 1 + 1 + 1 + 1) default)) (T.need (decide (d.I.toNat < v.L.length)) (T.leaf [D.i 0, D.i e.I, D.i f.I, D.i g.I, D.i h.I, D.i i.I, D.i j.I, D.b k.B, D.i l.I, D.b m.B, D.b n.B, D.i o.I, D.b p.B, D.i (q.I.toNat : Int), D.i (r.I.toNat : Int), D.i (s.I.toNat : Int), D.l t.L, D.l u.L, D.l (List.set v.L d.I.toNat (updC (List.getD v.L d.I.toNat []) [D.b true] (0 + 4) 0 (List.length [K.bool, K.int IntKind.i64, K.int IntKind.i64, K.bool, K.bool])))])) (T.need (decide (d.I.toNat < v.L.length)) (T.need (decide (d.I.toNat < v.L.length)) (T.leaf [D.i 0, D.i e.I, D.i f.I, D.i g.I, D.i h.I, D.i i.I, D.i j.I, D.b k.B, D.i l.I, D.b m.B, D.b n.B, D.i o.I, D.b p.B, D.i (q.I.toNat : Int), D.i (r.I.toNat : Int), D.i (s.I.toNat : Int), D.l t.L, D.l u.L, D.l (List.set v.L d.I.toNat (updC (List.getD v.L d.I.toNat []) [D.b (D.B (List.getD (List.getD v.L d.I.toNat []) 0 default))] (0 + 4) 0 (List.length [K.bool, K.int IntKind.i64, K.int IntKind.i64, K.bool, K.bool])))]))))) (T.leaf [D.i 0, D.i e.I, D.i f.I, D.i g.I, D.i h.I, D.i i.I, D.i j.I, D.b k.B, D.i l.I, D.b m.B, D.b n.B, D.i o.I, D.b p.B, D.i (q.I.toNat : Int), D.i (r.I.toNat : Int), D.i (s.I.toNat : Int), D.l t.L, D.l u.L, D.l v.L])))))))))) (T.ite (a.I == (2 : Int)) (T.need (yes ((q.I.toNat : Int) = (t.L.length : Int) ∧ (r.I.toNat : Int) = (u.L.length : Int) ∧ (s.I.toNat : Int) = (v.L.length : Int))) (T.leaf [D.i 0, D.i e.I, D.i f.I, D.i g.I, D.i h.I, D.i i.I, D.i j.I, D.b (hearV k.B m.B l.I (a.I == (1 : Int)) false b.I), D.i (mxI l.I b.I), D.b true, D.b n.B, D.i o.I, D.b p.B, D.i (↑(Int.toNat (q.I.toNat : Int)) : Int), D.i (↑(Int.toNat (r.I.toNat : Int)) : Int), D.i (↑(Int.toNat (s.I.toNat : Int)) : Int), D.l t.L, D.l u.L, D.l v.L])) (T.ite (a.I == (6 : Int)) (T.ite (a.I == (6 : Int)) (T.need (yes ((q.I.toNat : Int) = (t.L.length : Int) ∧ (r.I.toNat : Int) = (u.L.length : Int) ∧ (s.I.toNat : Int) = (v.L.length : Int))) (T.leaf [D.i 0, D.i e.I, D.i f.I, D.i g.I, D.i h.I, D.i i.I, D.i j.I, D.b k.B, D.i l.I, D.b m.B, D.b (hearV n.B p.B o.I (a.I == (6 : Int)) false b.I), D.i (mxI o.I b.I), D.b true, D.i (↑(Int.toNat (q.I.toNat : Int)) : Int), D.i (↑(Int.toNat (r.I.toNat : Int)) : Int), D.i (↑(Int.toNat (s.I.toNat : Int)) : Int), D.l t.L, D.l u.L, D.l v.L])) (T.ite (a.I == (3 : Int)) (T.need (yes (((q.I.toNat : Int) = (t.L.length : Int) ∧ (r.I.toNat : Int) = (u.L.length : Int) ∧ (s.I.toNat : Int) = (v.L.length : Int)) ∧ (0 : Int) ≤ c.I ∧ c.I < (u.L.length : Int))) (T.leaf [D.i 0, D.i e.I, D.i f.I, D.i g.I, D.i h.I, D.i i.I, D.i j.I, D.b k.B, D.i l.I, D.b m.B, D.b n.B, D.i o.I, D.b p.B, D.i (↑(Int.toNat (q.I.toNat : Int)) : Int), D.i (↑(Int.toNat (r.I.toNat : Int)) : Int), D.i (↑(Int.toNat (s.I.toNat : Int)) : Int), D.l t.L, D.l (hearL u.L c.I.toNat true true b.I), D.l v.L])) (T.ite (a.I == (4 : Int)) (T.ite (a.I == (4 : Int)) (T.need (decide ((0 : Int) ≤ c.I ∧ c.I < (q.I.toNat : Int))) (T.need (yes ((0 : Int) ≤ (c.I.toNat : Int) ∧ (c.I.toNat : Int) < (t.L.length : Int))) (T.need (yes (((q.I.toNat : Int) = (↑(List.length (hearL t.L (Int.toNat (c.I.toNat : Int)) (a.I == (4 : Int)) true b.I)) : Int) ∧ (r.I.toNat : Int) = (u.L.length : Int) ∧ (s.I.toNat : Int) = (v.L.length : Int)) ∧ (0 : Int) ≤ c.I ∧ c.I < (u.L.length : Int))) (T.leaf [D.i 0, D.i e.I, D.i f.I, D.i g.I, D.i h.I, D.i i.I, D.i j.I, D.b k.B, D.i l.I, D.b m.B, D.b n.B, D.i o.I, D.b p.B, D.i (↑(Int.toNat (q.I.toNat : Int)) : Int), D.i (↑(Int.toNat (r.I.toNat : Int)) : Int), D.i (↑(Int.toNat (s.I.toNat : Int)) : Int), D.l (hearL t.L (Int.toNat (c.I.toNat : Int)) (a.I == (4 : Int)) true b.I), D.l (hearL u.L c.I.toNat true true b.I), D.l v.L])))) (T.ite (a.I == (8 : Int)) (T.need (decide (d.I.toNat < v.L.length)) (T.ite (D.B (List.getD (List.getD v.L d.I.toNat []) 0 default)) (T.need (decide (d.I.toNat < v.L.length)) (T.need (decide (d.I.toNat < v.L.length)) (T.need (yes (((q.I.toNat : Int) = (t.L.length : Int) ∧ (r.I.toNat : Int) = (u.L.length : Int) ∧ (s.I.toNat : Int) = (↑(List.length (List.set v.L d.I.toNat (updC (List.getD v.L d.I.toNat []) [D.i (if c.I > D.I (List.getD (List.getD v.L d.I.toNat []) (0 + 1 + 1) default) then c.I else D.I (List.getD (List.getD v.L d.I.toNat []) (0 + 1 + 1) default))] (0 + 2) 0 (List.length [K.bool, K.int IntKind.i64, K.int IntKind.i64, K.bool, K.bool])))) : Int)) ∧ (0 : Int) ≤ c.I ∧ c.I < (u.L.length : Int))) (T.leaf [D.i 0, D.i e.I, D.i f.I, D.i g.I, D.i h.I, D.i i.I, D.i j.I, D.b k.B, D.i l.I, D.b m.B, D.b n.B, D.i o.I, D.b p.B, D.i (↑(Int.toNat (q.I.toNat : Int)) : Int), D.i (↑(Int.toNat (r.I.toNat : Int)) : Int), D.i (↑(Int.toNat (s.I.toNat : Int)) : Int), D.l t.L, D.l (hearL u.L c.I.toNat true true b.I), D.l (List.set v.L d.I.toNat (updC (List.getD v.L d.I.toNat []) [D.i (if c.I > D.I (List.getD (List.getD v.L d.I.toNat []) (0 + 1 + 1) default) then c.I else D.I (List.getD (List.getD v.L d.I.toNat []) (0 + 1 + 1) default))] (0 + 2) 0 (List.length [K.bool, K.int IntKind.i64, K.int IntKind.i64, K.bool, K.bool])))])))) (T.need (yes (((q.I.toNat : Int) = (t.L.length : Int) ∧ (r.I.toNat : Int) = (u.L.length : Int) ∧ (s.I.toNat : Int) = (v.L.length : Int)) ∧ (0 : Int) ≤ c.I ∧ c.I < (u.L.length : Int))) (T.leaf [D.i 0, D.i e.I, D.i f.I, D.i g.I, D.i h.I, D.i i.I, D.i j.I, D.b k.B, D.i l.I, D.b m.B, D.b n.B, D.i o.I, D.b p.B, D.i (↑(Int.toNat (q.I.toNat : Int)) : Int), D.i (↑(Int.toNat (r.I.toNat : Int)) : Int), D.i (↑(Int.toNat (s.I.toNat : Int)) : Int), D.l t.L, D.l (hearL u.L c.I.toNat true true b.I), D.l v.L])))) (T.ite (a.I == (9 : Int)) (T.need (decide (d.I.toNat < v.L.length)) (T.ite (D.B (List.getD (List.getD v.L d.I.toNat []) (0 + 1 + 1 + 1) default)) (T.need (decide (d.I.toNat < v.L.length)) (T.leaf [D.i 0, D.i e.I, D.i f.I, D.i g.I, D.i h.I, D.i i.I, D.i j.I, D.b k.B, D.i l.I, D.b m.B, D.b n.B, D.i o.I, D.b p.B, D.i (q.I.toNat : Int), D.i (r.I.toNat : Int), D.i (s.I.toNat : Int), D.l t.L, D.l u.L, D.l (List.set v.L d.I.toNat (updC (List.getD v.L d.I.toNat []) [D.b true] (0 + 3) 0 (List.length [K.bool, K.int IntKind.i64, K.int IntKind.i64, K.bool, K.bool])))])) (T.need (decide (d.I.toNat < v.L.length)) (T.need (decide (d.I.toNat < v.L.length)) (T.leaf [D.i 0, D.i e.I, D.i f.I, D.i g.I, D.i h.I, D.i i.I, D.i j.I, D.b k.B, D.i l.I, D.b m.B, D.b n.B, D.i o.I, D.b p.B, D.i (q.I.toNat : Int), D.i (r.I.toNat : Int), D.i (s.I.toNat : Int), D.l t.L, D.l u.L, D.l (List.set v.L d.I.toNat (updC (List.getD v.L d.I.toNat []) [D.b (D.B (List.getD (List.getD v.L d.I.toNat []) 0 default))] (0 + 3) 0 (List.length [K.bool, K.int IntKind.i64, K.int IntKind.i64, K.bool, K.bool])))]))))) (T.ite (a.I == (10 : Int)) (T.need (decide (d.I.toNat < v.L.length)) (T.ite (D.B (List.getD (List.getD v.L d.I.toNat []) (0 + 1 + 1 + 1 + 1) default)) (T.need (decide (d.I.toNat < v.L.length)) (T.leaf [D.i 0, D.i e.I, D.i f.I, D.i g.I, D.i h.I, D.i i.I, D.i j.I, D.b k.B, D.i l.I, D.b m.B, D.b n.B, D.i o.I, D.b p.B, D.i (q.I.toNat : Int), D.i (r.I.toNat : Int), D.i (s.I.toNat : Int), D.l t.L, D.l u.L, D.l (List.set v.L d.I.toNat (updC (List.getD v.L d.I.toNat []) [D.b true] (0 + 4) 0 (List.length [K.bool, K.int IntKind.i64, K.int IntKind.i64, K.bool, K.bool])))])) (T.need (decide (d.I.toNat < v.L.length)) (T.need (decide (d.I.toNat < v.L.length)) (T.leaf [D.i 0, D.i e.I, D.i f.I, D.i g.I, D.i h.I, D.i i.I, D.i j.I, D.b k.B, D.i l.I, D.b m.B, D.b n.B, D.i o.I, D.b p.B, D.i (q.I.toNat : Int), D.i (r.I.toNat : Int), D.i (s.I.toNat : Int), D.l t.L, D.l u.L, D.l (List.set v.L d.I.toNat (updC (List.getD v.L d.I.toNat []) [D.b (D.B (List.getD (List.getD v.L d.I.toNat []) 0 default))] (0 + 4) 0 (List.length [K.bool, K.int IntKind.i64, K.int IntKind.i64, K.bool, K.bool])))]))))) (T.leaf [D.i 0, D.i e.I, D.i f.I, D.i g.I, D.i h.I, D.i i.I, D.i j.I, D.b k.B, D.i l.I, D.b m.B, D.b n.B, D.i o.I, D.b p.B, D.i (q.I.toNat : Int), D.i (r.I.toNat : Int), D.i (s.I.toNat : Int), D.l t.L, D.l u.L, D.l v.L]))))) (T.ite (a.I == (5 : Int)) (T.need (decide ((0 : Int) ≤ c.I ∧ c.I < (q.I.toNat : Int))) (T.need (yes ((0 : Int) ≤ (c.I.toNat : Int) ∧ (c.I.toNat : Int) < (t.L.length : Int))) (T.need (yes (((q.I.toNat : Int) = (↑(List.length (hearL t.L (Int.toNat (c.I.toNat : Int)) (a.I == (4 : Int)) true b.I)) : Int) ∧ (r.I.toNat : Int) = (u.L.length : Int) ∧ (s.I.toNat : Int) = (v.L.length : Int)) ∧ (0 : Int) ≤ c.I ∧ c.I < (u.L.length : Int))) (T.leaf [D.i 0, D.i e.I, D.i f.I, D.i g.I, D.i h.I, D.i i.I, D.i j.I, D.b k.B, D.i l.I, D.b m.B, D.b n.B, D.i o.I, D.b p.B, D.i (↑(Int.toNat (q.I.toNat : Int)) : Int), D.i (↑(Int.toNat (r.I.toNat : Int)) : Int), D.i (↑(Int.toNat (s.I.toNat : Int)) : Int), D.l (hearL t.L (Int.toNat (c.I.toNat : Int)) (a.I == (4 : Int)) true b.I), D.l (hearL u.L c.I.toNat true true b.I), D.l v.L])))) (T.ite (a.I == (8 : Int)) (T.need (decide (d.I.toNat < v.L.length)) (T.ite (D.B (List.getD (List.getD v.L d.I.toNat []) 0 default)) (T.need (decide (d.I.toNat < v.L.length)) (T.need (decide (d.I.toNat < v.L.length)) (T.need (yes (((q.I.toNat : Int) = (t.L.length : Int) ∧ (r.I.toNat : Int) = (u.L.length : Int) ∧ (s.I.toNat : Int) = (↑(List.length (List.set v.L d.I.toNat (updC (List.getD v.L d.I.toNat []) [D.i (if c.I > D.I (List.getD (List.getD v.L d.I.toNat []) (0 + 1 + 1) default) then c.I else D.I (List.getD (List.getD v.L d.I.toNat []) (0 + 1 + 1) default))] (0 + 2) 0 (List.length [K.bool, K.int IntKind.i64, K.int IntKind.i64, K.bool, K.bool])))) : Int)) ∧ (0 : Int) ≤ c.I ∧ c.I < (u.L.length : Int))) (T.leaf [D.i 0, D.i e.I, D.i f.I, D.i g.I, D.i h.I, D.i i.I, D.i j.I, D.b k.B, D.i l.I, D.b m.B, D.b n.B, D.i o.I, D.b p.B, D.i (↑(Int.toNat (q.I.toNat : Int)) : Int), D.i (↑(Int.toNat (r.I.toNat : Int)) : Int), D.i (↑(Int.toNat (s.I.toNat : Int)) : Int), D.l t.L, D.l (hearL u.L c.I.toNat true true b.I), D.l (List.set v.L d.I.toNat (updC (List.getD v.L d.I.toNat []) [D.i (if c.I > D.I (List.getD (List.getD v.L d.I.toNat []) (0 + 1 + 1) default) then c.I else D.I (List.getD (List.getD v.L d.I.toNat []) (0 + 1 + 1) default))] (0 + 2) 0 (List.length [K.bool, K.int IntKind.i64, K.int IntKind.i64, K.bool, K.bool])))])))) (T.need (yes (((q.I.toNat : Int) = (t.L.length : Int) ∧ (r.I.toNat : Int) = (u.L.length : Int) ∧ (s.I.toNat : Int) = (v.L.length : Int)) ∧ (0 : Int) ≤ c.I ∧ c.I < (u.L.length : Int))) (T.leaf [D.i 0, D.i e.I, D.i f.I, D.i g.I, D.i h.I, D.i i.I, D.i j.I, D.b k.B, D.i l.I, D.b m.B, D.b n.B, D.i o.I, D.b p.B, D.i (↑(Int.toNat (q.I.toNat : Int)) : Int), D.i (↑(Int.toNat (r.I.toNat : Int)) : Int), D.i (↑(Int.toNat (s.I.toNat : Int)) : Int), D.l t.L, D.l (hearL u.L c.I.toNat true true b.I), D.l v.L])))) (T.ite (a.I == (9 : Int)) (T.need (decide (d.I.toNat < v.L.length)) (T.ite (D.B (List.getD (List.getD v.L d.I.toNat []) (0 + 1 + 1 + 1) default)) (T.need (decide (d.I.toNat < v.L.length)) (T.leaf [D.i 0, D.i e.I, D.i f.I, D.i g.I, D.i h.I, D.i i.I, D.i j.I, D.b k.B, D.i l.I, D.b m.B, D.b n.B, D.i o.I, D.b p.B, D.i (q.I.toNat : Int), D.i (r.I.toNat : Int), D.i (s.I.toNat : Int), D.l t.L, D.l u.L, D.l (List.set v.L d.I.toNat (updC (List.getD v.L d.I.toNat []) [D.b true] (0 + 3) 0 (List.length [K.bool, K.int IntKind.i64, K.int IntKind.i64, K.bool, K.bool])))])) (T.need (decide (d.I.toNat < v.L.length)) (T.need (decide (d.I.toNat < v.L.length)) (T.leaf [D.i 0, D.i e.I, D.i f.I, D.i g.I, D.i h.I, D.i i.I, D.i j.I, D.b k.B, D.i l.I, D.b m.B, D.b n.B, D.i o.I, D.b p.B, D.i (q.I.toNat : Int), D.i (r.I.toNat : Int), D.i (s.I.toNat : Int), D.l t.L, D.l u.L, D.l (List.set v.L d.I.toNat (updC (List.getD v.L d.I.toNat []) [D.b (D.B (List.getD (List.getD v.L d.I.toNat []) 0 default))] (0 + 3) 0 (List.length [K.bool, K.int IntKind.i64, K.int IntKind.i64, K.bool, K.bool])))]))))) (T.ite (a.I == (10 : Int)) (T.need (decide (d.I.toNat < v.L.length)) (T.ite (D.B (List.getD (List.getD v.L d.I.toNat []) (0 + 1 + 1 + 1 + 1) default)) (T.need (decide (d.I.toNat < v.L.length)) (T.leaf [D.i 0, D.i e.I, D.i f.I, D.i g.I, D.i h.I, D.i i.I, D.i j.I, D.b k.B, D.i l.I, D.b m.B, D.b n.B, D.i o.I, D.b p.B, D.i (q.I.toNat : Int), D.i (r.I.toNat : Int), D.i (s.I.toNat : Int), D.l t.L, D.l u.L, D.l (List.set v.L d.I.toNat (updC (List.getD v.L d.I.toNat []) [D.b true] (0 + 4) 0 (List.length [K.bool, K.int IntKind.i64, K.int IntKind.i64, K.bool, K.bool])))])) (T.need (decide (d.I.toNat < v.L.length)) (T.need (decide (d.I.toNat < v.L.length)) (T.leaf [D.i 0, D.i e.I, D.i f.I, D.i g.I, D.i h.I, D.i i.I, D.i j.I, D.b k.B, D.i l.I, D.b m.B, D.b n.B, D.i o.I, D.b p.B, D.i (q.I.toNat : Int), D.i (r.I.toNat : Int), D.i (s.I.toNat : Int), D.l t.L, D.l u.L, D.l (List.set v.L d.I.toNat (updC (List.getD v.L d.I.toNat []) [D.b (D.B (List.getD (List.getD v.L d.I.toNat []) 0 default))] (0 + 4) 0 (List.length [K.bool, K.int IntKind.i64, K.int IntKind.i64, K.bool, K.bool])))]))))) (T.leaf [D.i 0, D.i e.I, D.i f.I, D.i g.I, D.i h.I, D.i i.I, D.i j.I, D.b k.B, D.i l.I, D.b m.B, D.b n.B, D.i o.I, D.b p.B, D.i (q.I.toNat : Int), D.i (r.I.toNat : Int), D.i (s.I.toNat : Int), D.l t.L, D.l u.L, D.l v.L])))))))) (T.ite (a.I == (7 : Int)) (T.need (yes ((q.I.toNat : Int) = (t.L.length : Int) ∧ (r.I.toNat : Int) = (u.L.length : Int) ∧ (s.I.toNat : Int) = (v.L.length : Int))) (T.leaf [D.i 0, D.i e.I, D.i f.I, D.i g.I, D.i h.I, D.i i.I, D.i j.I, D.b k.B, D.i l.I, D.b m.B, D.b (hearV n.B p.B o.I (a.I == (6 : Int)) false b.I), D.i (mxI o.I b.I), D.b true, D.i (↑(Int.toNat (q.I.toNat : Int)) : Int), D.i (↑(Int.toNat (r.I.toNat : Int)) : Int), D.i (↑(Int.toNat (s.I.toNat : Int)) : Int), D.l t.L, D.l u.L, D.l v.L])) (T.ite (a.I == (3 : Int)) (T.need (yes (((q.I.toNat : Int) = (t.L.length : Int) ∧ (r.I.toNat : Int) = (u.L.length : Int) ∧ (s.I.toNat : Int) = (v.L.length : Int)) ∧ (0 : Int) ≤ c.I ∧ c.I < (u.L.length : Int))) (T.leaf [D.i 0, D.i e.I, D.i f.I, D.i g.I, D.i h.I, D.i i.I, D.i j.I, D.b k.B, D.i l.I, D.b m.B, D.b n.B, D.i o.I, D.b p.B, D.i (↑(Int.toNat (q.I.toNat : Int)) : Int), D.i (↑(Int.toNat (r.I.toNat : Int)) : Int), D.i (↑(Int.toNat (s.I.toNat : Int)) : Int), D.l t.L, D.l (hearL u.L c.I.toNat true true b.I), D.l v.L])) (T.ite (a.I == (4 : Int)) (T.ite (a.I == (4 : Int)) (T.need (decide ((0 : Int) ≤ c.I ∧ c.I < (q.I.toNat : Int))) (T.need (yes ((0 : Int) ≤ (c.I.toNat : Int) ∧ (c.I.toNat : Int) < (t.L.length : Int))) (T.need (yes (((q.I.toNat : Int) = (↑(List.length (hearL t.L (Int.toNat (c.I.toNat : Int)) (a.I == (4 : Int)) true b.I)) : Int) ∧ (r.I.toNat : Int) = (u.L.length : Int) ∧ (s.I.toNat : Int) = (v.L.length : Int)) ∧ (0 : Int) ≤ c.I ∧ c.I < (u.L.length : Int))) (T.leaf [D.i 0, D.i e.I, D.i f.I, D.i g.I, D.i h.I, D.i i.I, D.i j.I, D.b k.B, D.i l.I, D.b m.B, D.b n.B, D.i o.I, D.b p.B, D.i (↑(Int.toNat (q.I.toNat : Int)) : Int), D.i (↑(Int.toNat (r.I.toNat : Int)) : Int), D.i (↑(Int.toNat (s.I.toNat : Int)) : Int), D.l (hearL t.L (Int.toNat (c.I.toNat : Int)) (a.I == (4 : Int)) true b.I), D.l (hearL u.L c.I.toNat true true b.I), D.l v.L])))) (T.ite (a.I == (8 : Int)) (T.need (decide (d.I.toNat < v.L.length)) (T.ite (D.B (List.getD (List.getD v.L d.I.toNat []) 0 default)) (T.need (decide (d.I.toNat < v.L.length)) (T.need (decide (d.I.toNat < v.L.length)) (T.need (yes (((q.I.toNat : Int) = (t.L.length : Int) ∧ (r.I.toNat : Int) = (u.L.length : Int) ∧ (s.I.toNat : Int) = (↑(List.length (List.set v.L d.I.toNat (updC (List.getD v.L d.I.toNat []) [D.i (if c.I > D.I (List.getD (List.getD v.L d.I.toNat []) (0 + 1 + 1) default) then c.I else D.I (List.getD (List.getD v.L d.I.toNat []) (0 + 1 + 1) default))] (0 + 2) 0 (List.length [K.bool, K.int IntKind.i64, K.int IntKind.i64, K.bool, K.bool])))) : Int)) ∧ (0 : Int) ≤ c.I ∧ c.I < (u.L.length : Int))) (T.leaf [D.i 0, D.i e.I, D.i f.I, D.i g.I, D.i h.I, D.i i.I, D.i j.I, D.b k.B, D.i l.I, D.b m.B, D.b n.B, D.i o.I, D.b p.B, D.i (↑(Int.toNat (q.I.toNat : Int)) : Int), D.i (↑(Int.toNat (r.I.toNat : Int)) : Int), D.i (↑(Int.toNat (s.I.toNat : Int)) : Int), D.l t.L, D.l (hearL u.L c.I.toNat true true b.I), D.l (List.set v.L d.I.toNat (updC (List.getD v.L d.I.toNat []) [D.i (if c.I > D.I (List.getD (List.getD v.L d.I.toNat []) (0 + 1 + 1) default) then c.I else D.I (List.getD (List.getD v.L d.I.toNat []) (0 + 1 + 1) default))] (0 + 2) 0 (List.length [K.bool, K.int IntKind.i64, K.int IntKind.i64, K.bool, K.bool])))])))) (T.need (yes (((q.I.toNat : Int) = (t.L.length : Int) ∧ (r.I.toNat : Int) = (u.L.length : Int) ∧ (s.I.toNat : Int) = (v.L.length : Int)) ∧ (0 : Int) ≤ c.I ∧ c.I < (u.L.length : Int))) (T.leaf [D.i 0, D.i e.I, D.i f.I, D.i g.I, D.i h.I, D.i i.I, D.i j.I, D.b k.B, D.i l.I, D.b m.B, D.b n.B, D.i o.I, D.b p.B, D.i (↑(Int.toNat (q.I.toNat : Int)) : Int), D.i (↑(Int.toNat (r.I.toNat : Int)) : Int), D.i (↑(Int.toNat (s.I.toNat : Int)) : Int), D.l t.L, D.l (hearL u.L c.I.toNat true true b.I), D.l v.L])))) (T.ite (a.I == (9 : Int)) (T.need (decide (d.I.toNat < v.L.length)) (T.ite (D.B (List.getD (List.getD v.L d.I.toNat []) (0 + 1 + 1 + 1) default)) (T.need (decide (d.I.toNat < v.L.length)) (T.leaf [D.i 0, D.i e.I, D.i f.I, D.i g.I, D.i h.I, D.i i.I, D.i j.I, D.b k.B, D.i l.I, D.b m.B, D.b n.B, D.i o.I, D.b p.B, D.i (q.I.toNat : Int), D.i (r.I.toNat : Int), D.i (s.I.toNat : Int), D.l t.L, D.l u.L, D.l (List.set v.L d.I.toNat (updC (List.getD v.L d.I.toNat []) [D.b true] (0 + 3) 0 (List.length [K.bool, K.int IntKind.i64, K.int IntKind.i64, K.bool, K.bool])))])) (T.need (decide (d.I.toNat < v.L.length)) (T.need (decide (d.I.toNat < v.L.length)) (T.leaf [D.i 0, D.i e.I, D.i f.I, D.i g.I, D.i h.I, D.i i.I, D.i j.I, D.b k.B, D.i l.I, D.b m.B, D.b n.B, D.i o.I, D.b p.B, D.i (q.I.toNat : Int), D.i (r.I.toNat : Int), D.i (s.I.toNat : Int), D.l t.L, D.l u.L, D.l (List.set v.L d.I.toNat (updC (List.getD v.L d.I.toNat []) [D.b (D.B (List.getD (List.getD v.L d.I.toNat []) 0 default))] (0 + 3) 0 (List.length [K.bool, K.int IntKind.i64, K.int IntKind.i64, K.bool, K.bool])))]))))) (T.ite (a.I == (10 : Int)) (T.need (decide (d.I.toNat < v.L.length)) (T.ite (D.B (List.getD (List.getD v.L d.I.toNat []) (0 + 1 + 1 + 1 + 1) default)) (T.need (decide (d.I.toNat < v.L.length)) (T.leaf [D.i 0, D.i e.I, D.i f.I, D.i g.I, D.i h.I, D.i i.I, D.i j.I, D.b k.B, D.i l.I, D.b m.B, D.b n.B, D.i o.I, D.b p.B, D.i (q.I.toNat : Int), D.i (r.I.toNat : Int), D.i (s.I.toNat : Int), D.l t.L, D.l u.L, D.l (List.set v.L d.I.toNat (updC (List.getD v.L d.I.toNat []) [D.b true] (0 + 4) 0 (List.length [K.bool, K.int IntKind.i64, K.int IntKind.i64, K.bool, K.bool])))])) (T.need (decide (d.I.toNat < v.L.length)) (T.need (decide (d.I.toNat < v.L.length)) (T.leaf [D.i 0, D.i e.I, D.i f.I, D.i g.I, D.i h.I, D.i i.I, D.i j.I, D.b k.B, D.i l.I, D.b m.B, D.b n.B, D.i o.I, D.b p.B, D.i (q.I.toNat : Int), D.i (r.I.toNat : Int), D.i (s.I.toNat : Int), D.l t.L, D.l u.L, D.l (List.set v.L d.I.toNat (updC (List.getD v.L d.I.toNat []) [D.b (D.B (List.getD (List.getD v.L d.I.toNat []) 0 default))] (0 + 4) 0 (List.length [K.bool, K.int IntKind.i64, K.int IntKind.i64, K.bool, K.bool])))]))))) (T.leaf [D.i 0, D.i e.I, D.i f.I, D.i g.I, D.i h.I, D.i i.I, D.i j.I, D.b k.B, D.i l.I, D.b m.B, D.b n.B, D.i o.I, D.b p.B, D.i (q.I.toNat : Int), D.i (r.I.toNat : Int), D.i (s.I.toNat : Int), D.l t.L, D.l u.L, D.l v.L]))))) (T.ite (a.I == (5 : Int)) (T.need (decide ((0 : Int) ≤ c.I ∧ c.I < (q.I.toNat : Int))) (T.need (yes ((0 : Int) ≤ (c.I.toNat : Int) ∧ (c.I.toNat : Int) < (t.L.length : Int))) (T.need (yes (((q.I.toNat : Int) = (↑(List.length (hearL t.L (Int.toNat (c.I.toNat : Int)) (a.I == (4 : Int)) true b.I)) : Int) ∧ (r.I.toNat : Int) = (u.L.length : Int) ∧ (s.I.toNat : Int) = (v.L.length : Int)) ∧ (0 : Int) ≤ c.I ∧ c.I < (u.L.length : Int))) (T.leaf [D.i 0, D.i e.I, D.i f.I, D.i g.I, D.i h.I, D.i i.I, D.i j.I, D.b k.B, D.i l.I, D.b m.B, D.b n.B, D.i o.I, D.b p.B, D.i (↑(Int.toNat (q.I.toNat : Int)) : Int), D.i (↑(Int.toNat (r.I.toNat : Int)) : Int), D.i (↑(Int.toNat (s.I.toNat : Int)) : Int), D.l (hearL t.L (Int.toNat (c.I.toNat : Int)) (a.I == (4 : Int)) true b.I), D.l (hearL u.L c.I.toNat true true b.I), D.l v.L])))) (T.ite (a.I == (8 : Int)) (T.need (decide (d.I.toNat < v.L.length)) (T.ite (D.B (List.getD (List.getD v.L d.I.toNat []) 0 default)) (T.need (decide (d.I.toNat < v.L.length)) (T.need (decide (d.I.toNat < v.L.length)) (T.need (yes (((q.I.toNat : Int) = (t.L.length : Int) ∧ (r.I.toNat : Int) = (u.L.length : Int) ∧ (s.I.toNat : Int) = (↑(List.length (List.set v.L d.I.toNat (updC (List.getD v.L d.I.toNat []) [D.i (if c.I > D.I (List.getD (List.getD v.L d.I.toNat []) (0 + 1 + 1) default) then c.I else D.I (List.getD (List.getD v.L d.I.toNat []) (0 + 1 + 1) default))] (0 + 2) 0 (List.length [K.bool, K.int IntKind.i64, K.int IntKind.i64, K.bool, K.bool])))) : Int)) ∧ (0 : Int) ≤ c.I ∧ c.I < (u.L.length : Int))) (T.leaf [D.i 0, D.i e.I, D.i f.I, D.i g.I, D.i h.I, D.i i.I, D.i j.I, D.b k.B, D.i l.I, D.b m.B, D.b n.B, D.i o.I, D.b p.B, D.i (↑(Int.toNat (q.I.toNat : Int)) : Int), D.i (↑(Int.toNat (r.I.toNat : Int)) : Int), D.i (↑(Int.toNat (s.I.toNat : Int)) : Int), D.l t.L, D.l (hearL u.L c.I.toNat true true b.I), D.l (List.set v.L d.I.toNat (updC (List.getD v.L d.I.toNat []) [D.i (if c.I > D.I (List.getD (List.getD v.L d.I.toNat []) (0 + 1 + 1) default) then c.I else D.I (List.getD (List.getD v.L d.I.toNat []) (0 + 1 + 1) default))] (0 + 2) 0 (List.length [K.bool, K.int IntKind.i64, K.int IntKind.i64, K.bool, K.bool])))])))) (T.need (yes (((q.I.toNat : Int) = (t.L.length : Int) ∧ (r.I.toNat : Int) = (u.L.length : Int) ∧ (s.I.toNat : Int) = (v.L.length : Int)) ∧ (0 : Int) ≤ c.I ∧ c.I < (u.L.length : Int))) (T.leaf [D.i 0, D.i e.I, D.i f.I, D.i g.I, D.i h.I, D.i i.I, D.i j.I, D.b k.B, D.i l.I, D.b m.B, D.b n.B, D.i o.I, D.b p.B, D.i (↑(Int.toNat (q.I.toNat : Int)) : Int), D.i (↑(Int.toNat (r.I.toNat : Int)) : Int), D.i (↑(Int.toNat (s.I.toNat : Int)) : Int), D.l t.L, D.l (hearL u.L c.I.toNat true true b.I), D.l v.L])))) (T.ite (a.I == (9 : Int)) (T.need (decide (d.I.toNat < v.L.length)) (T.ite (D.B (List.getD (List.getD v.L d.I.toNat []) (0 + 1 + 1 + 1) default)) (T.need (decide (d.I.toNat < v.L.length)) (T.leaf [D.i 0, D.i e.I, D.i f.I, D.i g.I, D.i h.I, D.i i.I, D.i j.I, D.b k.B, D.i l.I, D.b m.B, D.b n.B, D.i o.I, D.b p.B, D.i (q.I.toNat : Int), D.i (r.I.toNat : Int), D.i (s.I.toNat : Int), D.l t.L, D.l u.L, D.l (List.set v.L d.I.toNat (updC (List.getD v.L d.I.toNat []) [D.b true] (0 + 3) 0 (List.length [K.bool, K.int IntKind.i64, K.int IntKind.i64, K.bool, K.bool])))])) (T.need (decide (d.I.toNat < v.L.length)) (T.need (decide (d.I.toNat < v.L.length)) (T.leaf [D.i 0, D.i e.I, D.i f.I, D.i g.I, D.i h.I, D.i i.I, D.i j.I, D.b k.B, D.i l.I, D.b m.B, D.b n.B, D.i o.I, D.b p.B, D.i (q.I.toNat : Int), D.i (r.I.toNat : Int), D.i (s.I.toNat : Int), D.l t.L, D.l u.L, D.l (List.set v.L d.I.toNat (updC (List.getD v.L d.I.toNat []) [D.b (D.B (List.getD (List.getD v.L d.I.toNat []) 0 default))] (0 + 3) 0 (List.length [K.bool, K.int IntKind.i64, K.int IntKind.i64, K.bool, K.bool])))]))))) (T.ite (a.I == (10 : Int)) (T.need (decide (d.I.toNat < v.L.length)) (T.ite (D.B (List.getD (List.getD v.L d.I.toNat []) (0 + 1 + 1 + 1 + 1) default)) (T.need (decide (d.I.toNat < v.L.length)) (T.leaf [D.i 0, D.i e.I, D.i f.I, D.i g.I, D.i h.I, D.i i.I, D.i j.I, D.b k.B, D.i l.I, D.b m.B, D.b n.B, D.i o.I, D.b p.B, D.i (q.I.toNat : Int), D.i (r.I.toNat : Int), D.i (s.I.toNat : Int), D.l t.L, D.l u.L, D.l (List.set v.L d.I.toNat (updC (List.getD v.L d.I.toNat []) [D.b true] (0 + 4) 0 (List.length [K.bool, K.int IntKind.i64, K.int IntKind.i64, K.bool, K.bool])))])) (T.need (decide (d.I.toNat < v.L.length)) (T.need (decide (d.I.toNat < v.L.length)) (T.leaf [D.i 0, D.i e.I, D.i f.I, D.i g.I, D.i h.I, D.i i.I, D.i j.I, D.b k.B, D.i l.I, D.b m.B, D.b n.B, D.i o.I, D.b p.B, D.i (q.I.toNat : Int), D.i (r.I.toNat : Int), D.i (s.I.toNat : Int), D.l t.L, D.l u.L, D.l (List.set v.L d.I.toNat (updC (List.getD v.L d.I.toNat []) [D.b (D.B (List.getD (List.getD v.L d.I.toNat []) 0 default))] (0 + 4) 0 (List.length [K.bool, K.int IntKind.i64, K.int IntKind.i64, K.bool, K.bool])))]))))) (T.leaf [D.i 0, D.i e.I, D.i f.I, D.i g.I, D.i h.I, D.i i.I, D.i j.I, D.b k.B, D.i l.I, D.b m.B, D.b n.B, D.i o.I, D.b p.B, D.i (q.I.toNat : Int), D.i (r.I.toNat : Int), D.i (s.I.toNat : Int), D.l t.L, D.l u.L, D.l v.L]))))))))))))))))))))) := by kernel_rfl
end Go.Proofs.Ytgmefblkmidglaa
namespace Go.Proofs.Ytgmefblkmidglaa
open Go.Lite
set_option maxRecDepth 100000
set_option linter.unusedVariables false
theorem hear_len (l : List (List D)) (k : Nat) (v b : Bool) (s : Int) : (hearL l k v b s).length = l.length := by simp [hearL]
theorem ok38 (n : Nat) : FnOKW C (n + 3) 38 (mkFW s38 G38) := by
  refine fn_ofW hC (sp := sp38) (lp := lp38) (sw := sw38) ⟨ok61 (n + 1), ok62 n, trivial⟩ ⟨ok63 n, many_ok ⟨ok1064 (n + 1), ok2064 (n + 1), ok3064 (n + 1), trivial⟩, trivial⟩ (by kernel_rfl) [] (by kernel_rfl) rfl (fun k hk => by cases hk) fun ds r hh => ?_
  unfold G38 at hh
  split at hh
  · rename_i k s p c p0 p1 p2 p3 p4 p5 ov os oh cv cs ch nr np nc rd po ca
    obtain ⟨hp, hh⟩ := need_some hh
    rw [yes_iff] at hp
    obtain ⟨⟨hpl, ⟨hr, hpo, hc⟩, ⟨l1, l2, l3⟩, -, -, -⟩, -, -⟩ := hp
    have hpl' := hpl
    unfold okPl at hpl'
    refine (t38 k s p c p0 p1 p2 p3 p4 p5 ov os oh cv cs ch nr np nc rd po ca).trans ?_
    rw [← hh]
    simp only [hr, hpo, hc, Int.toNat_natCast, hear_len]
    refine go_dec (by omega) (go_dec (by omega) (go_dec (by omega) (go_notT (decide_eq_true (by rw [List.length_take]; omega)) (go_dec (by omega) (go_dec (by omega) (go_dec (by omega) (go_yes hpl (go_not (fun ce => ?_) fun ce => ?_))))))))
    · rw [ce]; rfl
    · rw [ce]
      have ce' := of_decide_eq_true ce
      obtain ⟨⟨hk1, hk2⟩, hs, hpp, hcc, hz1, hz2⟩ := ce'
      have h1 : 0 ≤ p.I ∧ p.I < (rd.L.length : Int) := by omega
      have h2 : 0 ≤ p.I ∧ p.I < (po.L.length : Int) := by omega
      have h3 : 0 ≤ c.I ∧ c.I < (ca.L.length : Int) := by omega
      have h4 : c.I.toNat < ca.L.length := by omega
      have h5 : 0 ≤ ((p.I.toNat : Nat) : Int) ∧ ((p.I.toNat : Nat) : Int) < (rd.L.length : Int) := by omega
      refine go_dec h3 ?_
      have hks : k.I = 1 ∨ k.I = 2 ∨ k.I = 3 ∨ k.I = 4 ∨ k.I = 5 ∨ k.I = 6 ∨ k.I = 7 ∨ k.I = 8 ∨ k.I = 9 ∨ k.I = 10 := by omega
      clear hh hz1 hz2
      rcases hks with e | e | e | e | e | e | e | e | e | e <;> rw [e]
      · exact (go_true rfl (go_true rfl (go_yes (by simp) (by rfl))))
      · exact (go_false rfl (go_true rfl (go_yes (by simp) (by rfl))))
      · exact (go_false rfl (go_false rfl (go_false rfl (go_false rfl (go_true rfl (go_yes ⟨by simp, h2⟩ (by rfl)))))))
      · exact (go_false rfl (go_false rfl (go_false rfl (go_false rfl (go_false rfl (go_true rfl (go_true rfl (go_dec h1 (go_yes h5 (go_yes ⟨by simp, h2⟩ (by rfl)))))))))))
      · exact (go_false rfl (go_false rfl (go_false rfl (go_false rfl (go_false rfl (go_false rfl (go_true rfl (go_dec h1 (go_yes h5 (go_yes ⟨by simp, h2⟩ (by rfl)))))))))))
      · exact (go_false rfl (go_false rfl (go_true rfl (go_true rfl (go_yes (by simp) (by rfl))))))
      · exact (go_false rfl (go_false rfl (go_false rfl (go_true rfl (go_yes (by simp) (by rfl))))))
      · refine (go_false rfl (go_false rfl (go_false rfl (go_false rfl (go_false rfl (go_false rfl (go_false rfl (go_true rfl (go_dec h4 (go_ite (fun c1 => go_dec h4 (go_dec h4 (go_yes ⟨by simp, h2⟩ ?_))) fun c1 => go_yes ⟨by simp, h2⟩ ?_))))))))))
        · have e8 : evCa 8 p.I c.I ca.L = _ := show postC ca.L c.I.toNat p.I = _ from if_pos c1
          rw [e8, u5_2]
          rfl
        · have e8 : evCa 8 p.I c.I ca.L = ca.L := show postC ca.L c.I.toNat p.I = _ from if_neg (by rw [show bx (ca.L.getD c.I.toNat []) 0 = false from c1]; decide)
          rw [e8]
          rfl
      · refine (go_false rfl (go_false rfl (go_false rfl (go_false rfl (go_false rfl (go_false rfl (go_false rfl (go_false rfl (go_true rfl (go_dec h4 (go_ite (fun c1 => go_dec h4 ?_) fun c1 => go_dec h4 (go_dec h4 ?_))))))))))))
        · have e8 : evCa 9 p.I c.I ca.L = safeC ca.L c.I.toNat := rfl
          rw [e8, u5_3]
          unfold safeC
          rw [show bx (ca.L.getD c.I.toNat []) 3 = true from c1]
          rfl
        · have e8 : evCa 9 p.I c.I ca.L = safeC ca.L c.I.toNat := rfl
          rw [e8, u5_3]
          unfold safeC
          rw [show bx (ca.L.getD c.I.toNat []) 3 = false from c1]
          rfl
      · refine (go_false rfl (go_false rfl (go_false rfl (go_false rfl (go_false rfl (go_false rfl (go_false rfl (go_false rfl (go_false rfl (go_true rfl (go_dec h4 (go_ite (fun c1 => go_dec h4 ?_) fun c1 => go_dec h4 (go_dec h4 ?_)))))))))))))
        · have e8 : evCa 10 p.I c.I ca.L = foundC ca.L c.I.toNat := rfl
          rw [e8, u5_4]
          unfold foundC
          rw [show bx (ca.L.getD c.I.toNat []) 4 = true from c1]
          rfl
        · have e8 : evCa 10 p.I c.I ca.L = foundC ca.L c.I.toNat := rfl
          rw [e8, u5_4]
          unfold foundC
          rw [show bx (ca.L.getD c.I.toNat []) 4 = false from c1]
          rfl
  · cases hh
end Go.Proofs.Ytgmefblkmidglaa
