/-
 What the claim top_reached rests on, part 7.
-/
import Derived.Test.YtgoedfonmocafaaW6
namespace Go.Proofs.Ytgoedfonmocafaa
open Go.Lite
set_option linter.unusedVariables false
set_option maxRecDepth 100000
theorem t124 (q : Nat) (a b c d e f g : D) : fnTY C (tab124 q) 124 s124 [a, b, c, d, e, f, g] =
 T.need (yes (e.L = e.L ∧ manyP e.L ∧ (e.L.length : Int) = (e.L.length : Int) ∧ (0 : Int) ≤ (0 : Int) ∧ (0 : Int) ≤ (e.L.length : Int) ∧ spP a.I b.I c.L d.L ∧ spP a.I b.I c.L d.L ∧ List.length ([] : List (List D)) ≤ q)) (T.ite (decide (q < List.length ([] : List (List D)) + List.length (metsT b.I c.L d.L a.I c.L d.L e.L (Int.toNat (0 : Int)) (e.L.length - Int.toNat (0 : Int))))) (T.leaf ([] ++ List.take (q + 1 - List.length ([] : List (List D))) (metsT b.I c.L d.L a.I c.L d.L e.L (Int.toNat (0 : Int)) (e.L.length - Int.toNat (0 : Int))))) (T.leaf ([] ++ metsT b.I c.L d.L a.I c.L d.L e.L (Int.toNat (0 : Int)) (e.L.length - Int.toNat (0 : Int))))) := by kernel_rfl
theorem t124_2 (q : Nat) (a b c d e f g h i j k l m n o p q1 r s : D) : roundTY C (tab124 q) 124 (loopOf C.P 124 2) 2 l124_2 [a, b, c, d, e, f, g, h, i, j, k, l, m, n, o, p, q1, r, s] =
 T.ite (decide (d.I < c.I)) (T.need (decide ((0 : Int) ≤ d.I ∧ d.I < (b.L.length : Int))) (T.need (yes (spP l.I m.I n.L o.L ∧ spP p.I q1.I r.L s.L ∧ pcP (D.I (List.getD (List.getD b.L d.I.toNat []) 0 default)) (D.I (List.getD (List.getD b.L d.I.toNat []) (0 + 1) default)) (D.I (List.getD (List.getD b.L d.I.toNat []) (0 + 1 + 1) default)) (D.I (List.getD (List.getD b.L d.I.toNat []) (0 + 1 + 1 + 1) default)) (D.I (List.getD (List.getD b.L d.I.toNat []) (0 + 1 + 1 + 1 + 1) default)) ∧ ((0 : Int) = (0 : Int) ∨ (0 : Int) = (1 : Int) ∧ (0 : Int) = quickV m.I n.L o.L (D.I (List.getD (List.getD b.L d.I.toNat []) (0 + 1) default)) (D.I (List.getD (List.getD b.L d.I.toNat []) (0 + 1 + 1) default)) (D.I (List.getD (List.getD b.L d.I.toNat []) (0 + 1 + 1 + 1 + 1) default)) ∨ (0 : Int) = (2 : Int) ∧ (0 : Int) = quickV m.I n.L o.L (D.I (List.getD (List.getD b.L d.I.toNat []) (0 + 1) default)) (D.I (List.getD (List.getD b.L d.I.toNat []) (0 + 1 + 1) default)) (D.I (List.getD (List.getD b.L d.I.toNat []) (0 + 1 + 1 + 1 + 1) default)) ∧ (0 : Int) = slowV p.I r.L s.L (D.I (List.getD (List.getD b.L d.I.toNat []) (0 + 1) default)) (D.I (List.getD (List.getD b.L d.I.toNat []) (0 + 1 + 1) default)) (D.I (List.getD (List.getD b.L d.I.toNat []) (0 + 1 + 1 + 1 + 1) default))))) (T.need (yes ((0 : Int) ≤ (0 : Int) ∧ (0 : Int) ≤ D.I (List.getD (List.getD b.L d.I.toNat []) 0 default) ∧ D.I (List.getD (List.getD b.L d.I.toNat []) 0 default) ≤ (5000 : Int) ∧ a.L.length ≤ q)) (T.ite (decide (q < a.L.length + Int.toNat (D.I (List.getD (List.getD b.L d.I.toNat []) 0 default) - (0 : Int)))) (T.leaf (Rd.out Ex.ret [D.l (a.L ++ List.take (q + 1 - a.L.length) (List.replicate (Int.toNat (D.I (List.getD (List.getD b.L d.I.toNat []) 0 default) - (0 : Int))) [D.i (quickV m.I n.L o.L (D.I (List.getD (List.getD b.L d.I.toNat []) (0 + 1) default)) (D.I (List.getD (List.getD b.L d.I.toNat []) (0 + 1 + 1) default)) (D.I (List.getD (List.getD b.L d.I.toNat []) (0 + 1 + 1 + 1 + 1) default))), D.i (slowV p.I r.L s.L (D.I (List.getD (List.getD b.L d.I.toNat []) (0 + 1) default)) (D.I (List.getD (List.getD b.L d.I.toNat []) (0 + 1 + 1) default)) (D.I (List.getD (List.getD b.L d.I.toNat []) (0 + 1 + 1 + 1 + 1) default)))])), D.i e.I, D.i f.I, D.l g.L, D.l h.L, D.l i.L, D.l j.L, D.l k.L])) (T.leaf (Rd.again [D.l (a.L ++ List.replicate (Int.toNat (D.I (List.getD (List.getD b.L d.I.toNat []) 0 default) - (0 : Int))) [D.i (quickV m.I n.L o.L (D.I (List.getD (List.getD b.L d.I.toNat []) (0 + 1) default)) (D.I (List.getD (List.getD b.L d.I.toNat []) (0 + 1 + 1) default)) (D.I (List.getD (List.getD b.L d.I.toNat []) (0 + 1 + 1 + 1 + 1) default))), D.i (slowV p.I r.L s.L (D.I (List.getD (List.getD b.L d.I.toNat []) (0 + 1) default)) (D.I (List.getD (List.getD b.L d.I.toNat []) (0 + 1 + 1) default)) (D.I (List.getD (List.getD b.L d.I.toNat []) (0 + 1 + 1 + 1 + 1) default)))]), D.l b.L, D.i c.I, D.i (IntKind.i64.wrap (d.I + (1 : Int))), D.i e.I, D.i f.I, D.l g.L, D.l h.L, D.l i.L, D.l j.L, D.l k.L, D.i l.I, D.i m.I, D.l n.L, D.l o.L, D.i p.I, D.i q1.I, D.l r.L, D.l s.L])))))) (T.leaf (Rd.out (Ex.exit 0) [D.l a.L, D.i e.I, D.i f.I, D.l g.L, D.l h.L, D.l i.L, D.l j.L, D.l k.L])) := by kernel_rfl
theorem t124_6 (q : Nat) (a b c d e f g h i j k l m n o p q1 r s t u v w x y z z26 z27 z28 z29 z30 z31 z32 z33 z34 : D) : roundTY C (tab124 q) 124 (loopOf C.P 124 6) 2 l124_6 (a :: b :: c :: d :: e :: [f, g, h, i, j, k, l, m, n, o, p, q1, r, s, t, u, v, w, x, y, z, z26, z27, z28, z29, z30, z31, z32, z33, z34]) =
 T.ite (decide (m.I < (2 : Int))) (T.ite (decide (m.I = (↑0 : Int))) (T.need (yes (spP e.I f.I g.L h.L ∧ pcP z28.I z29.I z30.I z31.I z32.I)) (T.ite (decide (m.I = (↑0 : Int))) (T.leaf (Rd.again [D.l a.L, D.l b.L, D.i c.I, D.i d.I, D.i e.I, D.i f.I, D.l g.L, D.l h.L, D.i i.I, D.i j.I, D.l k.L, D.l l.L, D.i (IntKind.i64.wrap (m.I + (1 : Int))), D.i n.I, D.i o.I, D.l p.L, D.l q1.L, D.l r.L, D.l s.L, D.l t.L, D.i u.I, D.i v.I, D.l w.L, D.l x.L, D.i y.I, D.i z.I, D.l z26.L, D.l z27.L, D.i z28.I, D.i z29.I, D.i z30.I, D.i z31.I, D.i z32.I, D.i (quickV f.I g.L h.L z29.I z30.I z32.I), D.i z34.I])) (T.need (decide (m.I = (↑(0 + 1) : Int))) (T.leaf (Rd.again [D.l a.L, D.l b.L, D.i c.I, D.i d.I, D.i e.I, D.i f.I, D.l g.L, D.l h.L, D.i i.I, D.i j.I, D.l k.L, D.l l.L, D.i (IntKind.i64.wrap (m.I + (1 : Int))), D.i n.I, D.i o.I, D.l p.L, D.l q1.L, D.l r.L, D.l s.L, D.l t.L, D.i u.I, D.i v.I, D.l w.L, D.l x.L, D.i y.I, D.i z.I, D.l z26.L, D.l z27.L, D.i z28.I, D.i z29.I, D.i z30.I, D.i z31.I, D.i z32.I, D.i z33.I, D.i (quickV f.I g.L h.L z29.I z30.I z32.I)]))))) (T.need (decide (m.I = (↑(0 + 1) : Int))) (T.need (yes (spP i.I j.I k.L l.L ∧ pcP z28.I z29.I z30.I z31.I z32.I)) (T.ite (decide (m.I = (↑0 : Int))) (T.leaf (Rd.again [D.l a.L, D.l b.L, D.i c.I, D.i d.I, D.i e.I, D.i f.I, D.l g.L, D.l h.L, D.i i.I, D.i j.I, D.l k.L, D.l l.L, D.i (IntKind.i64.wrap (m.I + (1 : Int))), D.i n.I, D.i o.I, D.l p.L, D.l q1.L, D.l r.L, D.l s.L, D.l t.L, D.i u.I, D.i v.I, D.l w.L, D.l x.L, D.i y.I, D.i z.I, D.l z26.L, D.l z27.L, D.i z28.I, D.i z29.I, D.i z30.I, D.i z31.I, D.i z32.I, D.i (slowV i.I k.L l.L z29.I z30.I z32.I), D.i z34.I])) (T.need (decide (m.I = (↑(0 + 1) : Int))) (T.leaf (Rd.again [D.l a.L, D.l b.L, D.i c.I, D.i d.I, D.i e.I, D.i f.I, D.l g.L, D.l h.L, D.i i.I, D.i j.I, D.l k.L, D.l l.L, D.i (IntKind.i64.wrap (m.I + (1 : Int))), D.i n.I, D.i o.I, D.l p.L, D.l q1.L, D.l r.L, D.l s.L, D.l t.L, D.i u.I, D.i v.I, D.l w.L, D.l x.L, D.i y.I, D.i z.I, D.l z26.L, D.l z27.L, D.i z28.I, D.i z29.I, D.i z30.I, D.i z31.I, D.i z32.I, D.i z33.I, D.i (slowV i.I k.L l.L z29.I z30.I z32.I)]))))))) (T.leaf (Rd.out (Ex.exit 2) [D.l a.L, D.l b.L, D.i c.I, D.i d.I, D.i n.I, D.i o.I, D.l p.L, D.l q1.L, D.l r.L, D.l s.L, D.l t.L, D.i u.I, D.i v.I, D.l w.L, D.l x.L, D.i y.I, D.i z.I, D.l z26.L, D.l z27.L, D.i z28.I, D.i z29.I, D.i z30.I, D.i z31.I, D.i z32.I, D.i z33.I, D.i z34.I])) := by kernel_rfl
theorem t124_11 (q : Nat) (a b c d e f g h i j k l m n o p q1 r s t u v w : D) : roundTY C (tab124 q) 124 (loopOf C.P 124 11) 2 l124_11 [a, b, c, d, e, f, g, h, i, j, k, l, m, n, o, p, q1, r, s, t, u, v, w] =
 T.ite (decide (f.I < e.I)) (T.ite (!!a.L.length == (tab124 q).q) (T.leaf (Rd.out Ex.ret [D.l (a.L ++ [[D.i v.I] ++ ([D.i w.I] ++ []) ++ [] ++ []]), D.i g.I, D.i h.I, D.l i.L, D.l j.L, D.l k.L, D.l l.L, D.l m.L])) (T.leaf (Rd.again [D.l (a.L ++ [[D.i v.I] ++ ([D.i w.I] ++ []) ++ [] ++ []]), D.l b.L, D.i c.I, D.i d.I, D.i e.I, D.i (IntKind.i64.wrap (f.I + (1 : Int))), D.i g.I, D.i h.I, D.l i.L, D.l j.L, D.l k.L, D.l l.L, D.l m.L, D.i n.I, D.i o.I, D.l p.L, D.l q1.L, D.i r.I, D.i s.I, D.l t.L, D.l u.L, D.i v.I, D.i w.I]))) (T.leaf (Rd.out (Ex.exit 4) [D.l a.L, D.l b.L, D.i c.I, D.i d.I, D.i g.I, D.i h.I, D.l i.L, D.l j.L, D.l k.L, D.l l.L, D.l m.L, D.i n.I, D.i o.I, D.l p.L, D.l q1.L, D.i r.I, D.i s.I, D.l t.L, D.l u.L])) := by kernel_rfl
theorem t91 (a b c d e f g : D) : fnTW C tab91 91 s91 [a, b, c, d, e, f, g] =
 T.leaf [D.i a.I, D.i b.I, D.l c.L, D.l d.L, D.l e.L, D.l f.L, D.l g.L] := by kernel_rfl
theorem t41 (a b c : D) : fnT C tab41 41 s41 [a, b, c] =
 T.ite (roadOk a.L b.L c.L) (T.ite false (T.leaf [D.i 0, D.i 0]) (T.need (yes (manyP a.L)) (T.need (decide (Int.toNat (↑(a.L.length + 1) : Int) ≤ List.length (begR a.L))) (T.need (yes (manyP a.L ∧ List.take (Int.toNat (↑(a.L.length + 1) : Int)) (begR a.L) = begR a.L)) (T.leaf [D.i (ix (List.getD (List.take (Int.toNat (↑(a.L.length + 1) : Int)) (begR a.L)) a.L.length []) 0), D.i 0]))))) (T.ite true (T.leaf [D.i 0, D.i 2]) (T.need (yes (manyP a.L)) (T.need (decide (Int.toNat (↑(a.L.length + 1) : Int) ≤ List.length (begR a.L))) (T.need (yes (manyP a.L ∧ List.take (Int.toNat (↑(a.L.length + 1) : Int)) (begR a.L) = begR a.L)) (T.leaf [D.i (ix (List.getD (List.take (Int.toNat (↑(a.L.length + 1) : Int)) (begR a.L)) a.L.length []) 0), D.i 0]))))) := by kernel_rfl
theorem t43 (a b c d e f g : D) : fnT C tab43 43 s43 [a, b, c, d, e, f, g] =
 T.ite (roadOk a.L b.L c.L) (T.ite false (T.leaf [D.i 0, D.b false]) (T.ite (speedsOk d.I e.I f.L g.L) (T.ite false (T.leaf [D.i 0, D.b false]) (T.need (decide ((0 : Int) ≤ (1 : Int) ∧ (1 : Int) ≤ IntKind.i64.wrap (lenR a.L + (1 : Int)) ∧ IntKind.i64.wrap (lenR a.L + (1 : Int)) ≤ (2 : Int) ^ 40 ∧ (↑Try.prog.types[178].bytes : Int) * IntKind.i64.wrap (lenR a.L + (1 : Int)) ≤ (2 : Int) ^ 46)) (T.need (yes (spP d.I e.I f.L g.L ∧ manyP a.L)) (T.need (yes (((1 : Int) ≤ (↑(Int.toNat (1 : Int)) : Int) ∧ (↑(Int.toNat (1 : Int)) : Int) ≤ (↑(List.length (List.replicate (Int.toNat (IntKind.i64.wrap (lenR a.L + (1 : Int)))) [D.i 0, D.i 0])) : Int)) ∧ (↑(Int.toNat (1 : Int)) : Int) + (↑(List.length (mets d.I e.I f.L g.L a.L)) : Int) ≤ (200000 : Int) ∧ (∀ (x : List D), x ∈ mets d.I e.I f.L g.L a.L → metP x) ∧ ((0 : Int) ≤ (0 : Int) ∧ (0 : Int) ≤ (20000000 : Int) * (↑(Int.toNat (1 : Int)) : Int)) ∧ (0 : Int) ≤ (0 : Int) ∧ (0 : Int) ≤ (20000000 : Int) * (↑(Int.toNat (1 : Int)) : Int))) (T.need (decide ((0 : Int) ≤ IntKind.i64.wrap (lenR a.L + (1 : Int)) ∧ IntKind.i64.wrap (lenR a.L + (1 : Int)) ≤ (↑(Int.toNat ((↑(Int.toNat (1 : Int)) : Int) + (↑(List.length (mets d.I e.I f.L g.L a.L)) : Int))) : Int))) (T.need (decide ((0 : Int) ≤ IntKind.i64.wrap (lenR a.L + (1 : Int)) ∧ IntKind.i64.wrap (lenR a.L + (1 : Int)) ≤ (↑(Int.toNat (IntKind.i64.wrap (lenR a.L + (1 : Int)))) : Int))) (T.need (decide (Int.toNat (IntKind.i64.wrap (lenR a.L + (1 : Int))) ≤ List.length (outM (0 : Int) (0 : Int) (List.replicate (Int.toNat (IntKind.i64.wrap (lenR a.L + (1 : Int)))) [D.i 0, D.i 0]) (Int.toNat (↑(Int.toNat (1 : Int)) : Int)) (mets d.I e.I f.L g.L a.L)))) (T.leaf [D.i 1, D.l (List.take (Int.toNat (IntKind.i64.wrap (lenR a.L + (1 : Int)))) (outM (0 : Int) (0 : Int) (List.replicate (Int.toNat (IntKind.i64.wrap (lenR a.L + (1 : Int)))) [D.i 0, D.i 0]) (Int.toNat (↑(Int.toNat (1 : Int)) : Int)) (mets d.I e.I f.L g.L a.L))), D.b true])))))))) (T.ite true (T.leaf [D.i 0, D.b false]) (T.need (decide ((0 : Int) ≤ (1 : Int) ∧ (1 : Int) ≤ IntKind.i64.wrap (lenR a.L + (1 : Int)) ∧ IntKind.i64.wrap (lenR a.L + (1 : Int)) ≤ (2 : Int) ^ 40 ∧ (↑Try.prog.types[178].bytes : Int) * IntKind.i64.wrap (lenR a.L + (1 : Int)) ≤ (2 : Int) ^ 46)) (T.need (yes (spP d.I e.I f.L g.L ∧ manyP a.L)) (T.need (yes (((1 : Int) ≤ (↑(Int.toNat (1 : Int)) : Int) ∧ (↑(Int.toNat (1 : Int)) : Int) ≤ (↑(List.length (List.replicate (Int.toNat (IntKind.i64.wrap (lenR a.L + (1 : Int)))) [D.i 0, D.i 0])) : Int)) ∧ (↑(Int.toNat (1 : Int)) : Int) + (↑(List.length (mets d.I e.I f.L g.L a.L)) : Int) ≤ (200000 : Int) ∧ (∀ (x : List D), x ∈ mets d.I e.I f.L g.L a.L → metP x) ∧ ((0 : Int) ≤ (0 : Int) ∧ (0 : Int) ≤ (20000000 : Int) * (↑(Int.toNat (1 : Int)) : Int)) ∧ (0 : Int) ≤ (0 : Int) ∧ (0 : Int) ≤ (20000000 : Int) * (↑(Int.toNat (1 : Int)) : Int))) (T.need (decide ((0 : Int) ≤ IntKind.i64.wrap (lenR a.L + (1 : Int)) ∧ IntKind.i64.wrap (lenR a.L + (1 : Int)) ≤ (↑(Int.toNat ((↑(Int.toNat (1 : Int)) : Int) + (↑(List.length (mets d.I e.I f.L g.L a.L)) : Int))) : Int))) (T.need (decide ((0 : Int) ≤ IntKind.i64.wrap (lenR a.L + (1 : Int)) ∧ IntKind.i64.wrap (lenR a.L + (1 : Int)) ≤ (↑(Int.toNat (IntKind.i64.wrap (lenR a.L + (1 : Int)))) : Int))) (T.need (decide (Int.toNat (IntKind.i64.wrap (lenR a.L + (1 : Int))) ≤ List.length (outM (0 : Int) (0 : Int) (List.replicate (Int.toNat (IntKind.i64.wrap (lenR a.L + (1 : Int)))) [D.i 0, D.i 0]) (Int.toNat (↑(Int.toNat (1 : Int)) : Int)) (mets d.I e.I f.L g.L a.L)))) (T.leaf [D.i 1, D.l (List.take (Int.toNat (IntKind.i64.wrap (lenR a.L + (1 : Int)))) (outM (0 : Int) (0 : Int) (List.replicate (Int.toNat (IntKind.i64.wrap (lenR a.L + (1 : Int)))) [D.i 0, D.i 0]) (Int.toNat (↑(Int.toNat (1 : Int)) : Int)) (mets d.I e.I f.L g.L a.L))), D.b true])))))))))) (T.ite true (T.leaf [D.i 0, D.b false]) (T.ite (speedsOk d.I e.I f.L g.L) (T.ite false (T.leaf [D.i 0, D.b false]) (T.need true (T.need (yes (spP d.I e.I f.L g.L ∧ manyP a.L)) (T.need (yes (((1 : Int) ≤ (↑(Int.toNat (1 : Int)) : Int) ∧ (↑(Int.toNat (1 : Int)) : Int) ≤ (↑(List.length (List.replicate (Int.toNat (IntKind.i64.wrap ((0 : Int) + (1 : Int)))) [D.i 0, D.i 0])) : Int)) ∧ (↑(Int.toNat (1 : Int)) : Int) + (↑(List.length (mets d.I e.I f.L g.L a.L)) : Int) ≤ (200000 : Int) ∧ (∀ (x : List D), x ∈ mets d.I e.I f.L g.L a.L → metP x) ∧ ((0 : Int) ≤ (0 : Int) ∧ (0 : Int) ≤ (20000000 : Int) * (↑(Int.toNat (1 : Int)) : Int)) ∧ (0 : Int) ≤ (0 : Int) ∧ (0 : Int) ≤ (20000000 : Int) * (↑(Int.toNat (1 : Int)) : Int))) (T.need (decide ((0 : Int) ≤ IntKind.i64.wrap ((0 : Int) + (1 : Int)) ∧ IntKind.i64.wrap ((0 : Int) + (1 : Int)) ≤ (↑(Int.toNat ((↑(Int.toNat (1 : Int)) : Int) + (↑(List.length (mets d.I e.I f.L g.L a.L)) : Int))) : Int))) (T.need true (T.need (decide (Int.toNat (IntKind.i64.wrap ((0 : Int) + (1 : Int))) ≤ List.length (outM (0 : Int) (0 : Int) (List.replicate (Int.toNat (IntKind.i64.wrap ((0 : Int) + (1 : Int)))) [D.i 0, D.i 0]) (Int.toNat (↑(Int.toNat (1 : Int)) : Int)) (mets d.I e.I f.L g.L a.L)))) (T.leaf [D.i 1, D.l (List.take (Int.toNat (IntKind.i64.wrap ((0 : Int) + (1 : Int)))) (outM (0 : Int) (0 : Int) (List.replicate (Int.toNat (IntKind.i64.wrap ((0 : Int) + (1 : Int)))) [D.i 0, D.i 0]) (Int.toNat (↑(Int.toNat (1 : Int)) : Int)) (mets d.I e.I f.L g.L a.L))), D.b true])))))))) (T.ite true (T.leaf [D.i 0, D.b false]) (T.need true (T.need (yes (spP d.I e.I f.L g.L ∧ manyP a.L)) (T.need (yes (((1 : Int) ≤ (↑(Int.toNat (1 : Int)) : Int) ∧ (↑(Int.toNat (1 : Int)) : Int) ≤ (↑(List.length (List.replicate (Int.toNat (IntKind.i64.wrap ((0 : Int) + (1 : Int)))) [D.i 0, D.i 0])) : Int)) ∧ (↑(Int.toNat (1 : Int)) : Int) + (↑(List.length (mets d.I e.I f.L g.L a.L)) : Int) ≤ (200000 : Int) ∧ (∀ (x : List D), x ∈ mets d.I e.I f.L g.L a.L → metP x) ∧ ((0 : Int) ≤ (0 : Int) ∧ (0 : Int) ≤ (20000000 : Int) * (↑(Int.toNat (1 : Int)) : Int)) ∧ (0 : Int) ≤ (0 : Int) ∧ (0 : Int) ≤ (20000000 : Int) * (↑(Int.toNat (1 : Int)) : Int))) (T.need (decide ((0 : Int) ≤ IntKind.i64.wrap ((0 : Int) + (1 : Int)) ∧ IntKind.i64.wrap ((0 : Int) + (1 : Int)) ≤ (↑(Int.toNat ((↑(Int.toNat (1 : Int)) : Int) + (↑(List.length (mets d.I e.I f.L g.L a.L)) : Int))) : Int))) (T.need true (T.need (decide (Int.toNat (IntKind.i64.wrap ((0 : Int) + (1 : Int))) ≤ List.length (outM (0 : Int) (0 : Int) (List.replicate (Int.toNat (IntKind.i64.wrap ((0 : Int) + (1 : Int)))) [D.i 0, D.i 0]) (Int.toNat (↑(Int.toNat (1 : Int)) : Int)) (mets d.I e.I f.L g.L a.L)))) (T.leaf [D.i 1, D.l (List.take (Int.toNat (IntKind.i64.wrap ((0 : Int) + (1 : Int)))) (outM (0 : Int) (0 : Int) (List.replicate (Int.toNat (IntKind.i64.wrap ((0 : Int) + (1 : Int)))) [D.i 0, D.i 0]) (Int.toNat (↑(Int.toNat (1 : Int)) : Int)) (mets d.I e.I f.L g.L a.L))), D.b true])))))))))) := by kernel_rfl
theorem t43_r8 (a b c d e f g h i j k : D) : roundRT C tab43 43 (rangeOf C.P 43 8) 0 4 [4, 5, 6, 8, 9, 32] h43_8 y124 [a, b, c, d, e, f, g, h, i] [j, k] =
 T.need true (T.need true (T.need true (T.need true (T.need true (T.need true (T.need true (T.ite false (T.leaf (Rd.again [D.b a.B, D.i b.I, D.i (IntKind.i64.wrap (c.I + j.I)), D.i (IntKind.i64.wrap (d.I + k.I)), D.l e.L, D.l f.L, D.l g.L, D.i (h.I.toNat : Int), D.l i.L], [])) (T.need (decide (h.I.toNat ≤ i.L.length ∧ h.I.toNat + 1 ≤ 2 ^ 62 ∧ (h.I.toNat + 1) * Try.prog.types[178].bytes ≤ 2 ^ 47)) (T.leaf (Rd.again [D.b a.B, D.i b.I, D.i (IntKind.i64.wrap (c.I + j.I)), D.i (IntKind.i64.wrap (d.I + k.I)), D.l e.L, D.l f.L, D.l g.L, D.i (↑(h.I.toNat + 1) : Int), D.l (List.take h.I.toNat i.L ++ List.take (List.length [[D.i (IntKind.i64.wrap (c.I + j.I)), D.i (IntKind.i64.wrap (d.I + k.I))]]) [[D.i (IntKind.i64.wrap (c.I + j.I)), D.i (IntKind.i64.wrap (d.I + k.I))]])], [])))))))))) := by kernel_rfl
theorem t12 (a b c d e f g h i : D) : fnT C tab12 12 s12 [a, b, c, d, e, f, g, h, i] =
 T.ite (roadOk a.L b.L c.L && speedsOk d.I e.I f.L g.L) (T.ite false (T.leaf [D.i 0, D.i 0, D.i 2]) (T.need (yes (List.length (sumsM d.I e.I f.L g.L a.L) ≤ 1000000)) (T.ite (!within h.I (0 : Int) ((↑(List.length (sumsM d.I e.I f.L g.L a.L)) : Int) - (1 : Int))) (T.leaf [D.i 0, D.i 0, D.i 2]) (T.need (yes (List.length (sumsM d.I e.I f.L g.L a.L) ≤ 1000000)) (T.ite (!within i.I (0 : Int) ((↑(List.length (sumsM d.I e.I f.L g.L a.L)) : Int) - (1 : Int))) (T.leaf [D.i 0, D.i 0, D.i 2]) (T.ite (decide (h.I > i.I)) (T.leaf [D.i 0, D.i 0, D.i 2]) (T.need (yes (sumsP (sumsM d.I e.I f.L g.L a.L) ∧ ((0 : Int) = (0 : Int) ∨ (0 : Int) = (1 : Int)) ∧ ((0 : Int) ≤ h.I ∧ h.I < (↑(List.length (sumsM d.I e.I f.L g.L a.L)) : Int)) ∧ (0 : Int) ≤ i.I ∧ i.I < (↑(List.length (sumsM d.I e.I f.L g.L a.L)) : Int))) (T.need (yes (sumsP (sumsM d.I e.I f.L g.L a.L) ∧ ((1 : Int) = (0 : Int) ∨ (1 : Int) = (1 : Int)) ∧ ((0 : Int) ≤ h.I ∧ h.I < (↑(List.length (sumsM d.I e.I f.L g.L a.L)) : Int)) ∧ (0 : Int) ≤ i.I ∧ i.I < (↑(List.length (sumsM d.I e.I f.L g.L a.L)) : Int))) (T.leaf [D.i (ix (List.getD (sumsM d.I e.I f.L g.L a.L) i.I.toNat []) (Int.toNat (0 : Int)) - ix (List.getD (sumsM d.I e.I f.L g.L a.L) h.I.toNat []) (Int.toNat (0 : Int))), D.i (ix (List.getD (sumsM d.I e.I f.L g.L a.L) i.I.toNat []) (Int.toNat (1 : Int)) - ix (List.getD (sumsM d.I e.I f.L g.L a.L) h.I.toNat []) (Int.toNat (1 : Int))), D.i 0]))))))))) (T.ite true (T.leaf [D.i 0, D.i 0, D.i 2]) T.fail) := by kernel_rfl
set_option maxRecDepth 100000
theorem ok124_6 (q n : Nat) : LoopSimY C (n + 2) 2 124 (loopOf C.P 124 6) (some y124) q (mkLY 2 l124_6 (G124_6 q)) := by
 refine loop_ofY hC (sp := sp124) (lp := lp124 q) (sw := sw124) (Y := y124) (yOK_mk _ _ _) ⟨ok125 n, ok126 n, trivial⟩ trivial 2 [] (by kernel_rfl) rfl (by kernel_rfl) (fun k hk => by cases hk) (by kernel_rfl) (fun ds => (2 - (ds.getD 12 default).I).toNat) fun ds rr h => ?_
 unfold G124_6 at h
 split at h
 ·rename_i g p' n i x1 x2 x3 x4 x5 x6 x7 x8 k lo hi r u p c j y1 y2 y3 y4 y5 y6 y7 y8 a b c' d e m0 m1
  obtain ⟨hp, h⟩ := need_some h
  rw [yes_iff] at hp
  obtain ⟨h1, h2, h3, hk⟩ := hp
  refine ⟨by rw [fuelC]; show (2 - k.I).toNat < _; rcases hk with h | h | h <;> omega, ?_⟩
  rw [show roundTY C (mkTabY sp124 (lp124 q) sw124 y124 q) 124 (loopOf C.P 124 6) 2 l124_6 (g :: p' :: n :: i :: x1 :: [x2, x3, x4, x5, x6, x7, x8, k, lo, hi, r, u, p, c, j, y1, y2, y3, y4, y5, y6, y7, y8, a, b, c', d, e, m0, m1]) = _ from t124_6 q g p' n i x1 x2 x3 x4 x5 x6 x7 x8 k lo hi r u p c j y1 y2 y3 y4 y5 y6 y7 y8 a b c' d e m0 m1]
  have w0 : IntKind.i64.wrap ((0 : Int) + 1) = 1 := by decide
  have w1 : IntKind.i64.wrap ((1 : Int) + 1) = 2 := by decide
  rcases hk with hk | ⟨hk, hm⟩ | ⟨hk, hm, hm'⟩
  ·simp only [hk, w0]
   refine rd_pos (by omega) (rd_pos (by trivial) (rd_yes ⟨h1, h3⟩ (rd_pos (by trivial) (rd_again ((need_yes ⟨h1, h2, h3, .inr (.inl ⟨rfl, rfl⟩)⟩).trans ?_) (by
    show (2 - (1 : Int)).toNat < (2 - k.I).toNat
    omega)))))
   exact h
  ·simp only [hk, w1]
   refine rd_pos (by omega) (rd_neg (by omega) (rd_dec (by omega) (rd_yes ⟨h2, h3⟩ (rd_neg (by omega) (rd_dec (by omega) (rd_again ((need_yes ⟨h1, h2, h3, .inr (.inr ⟨rfl, hm, rfl⟩)⟩).trans ?_) (by
    show (2 - (2 : Int)).toNat < (2 - k.I).toNat
    omega)))))))
   exact h
  ·rw [hk]
   refine rd_neg (by omega) ?_
   rw [hm, hm']
   exact rd_out h
 ·cases h
theorem ok124_11 (q n : Nat) : LoopSimY C (n + 2) 2 124 (loopOf C.P 124 11) (some y124) q (mkLY 2 l124_11 (G124_11 q)) := by
 refine loop_ofY hC (sp := sp124) (lp := lp124 q) (sw := sw124) (Y := y124) (yOK_mk _ _ _) ⟨ok125 n, ok126 n, trivial⟩ trivial 2 [] (by kernel_rfl) rfl (by kernel_rfl) (fun k hk => by cases hk) (by kernel_rfl) (fun ds => ((ds.getD 4 default).I - (ds.getD 5 default).I).toNat) fun ds rr h => ?_
 unfold G124_11 at h
 split at h
 ·rename_i g p' n i l k lo hi r u p c j y1 y2 y3 y4 y5 y6 y7 y8 m0 m1
  obtain ⟨hp, h⟩ := need_some h
  rw [yes_iff] at hp
  obtain ⟨h1, h2, h3, hg⟩ := hp
  refine ⟨by rw [fuelC]; show (l.I - k.I).toNat < _; omega, ?_⟩
  rw [show roundTY C (mkTabY sp124 (lp124 q) sw124 y124 q) 124 (loopOf C.P 124 11) 2 l124_11 [g, p', n, i, l, k, lo, hi, r, u, p, c, j, y1, y2, y3, y4, y5, y6, y7, y8, m0, m1] = _ from t124_11 q g p' n i l k lo hi r u p c j y1 y2 y3 y4 y5 y6 y7 y8 m0 m1]
  have hq : (tab124 q).q = q := rfl
  simp only [hq, List.append_nil, List.cons_append, List.nil_append, Bool.not_not]
  refine rd_if (fun hlt => ?_) fun hge => ?_
  ·have w0 : IntKind.i64.wrap (k.I + 1) = k.I + 1 := wrap_id (by omega) (by omega)
   have e1 : (l.I - k.I).toNat = (l.I - (k.I + 1)).toNat + 1 := by omega
   rw [e1, List.replicate_succ] at h
   rw [w0]
   refine rd_ite (fun c2 => ?_) fun c2 => ?_
   ·have c2 : g.L.length = q := by simpa using c2
    rw [run_ite, if_pos (by simp; omega)] at h
    rw [show q + 1 - g.L.length = 1 by omega] at h
    exact rd_out h
   ·have c2 : g.L.length ≠ q := by simpa using c2
    refine rd_again ((need_yes ⟨by simp only [I_i]; omega, by simp only [I_i]; omega, h3, by simp only [L_l, List.length_append, List.length_cons, List.length_nil]; omega⟩).trans ?_) (by
     show (l.I - (k.I + 1)).toNat < (l.I - k.I).toNat
     omega)
    simp only [L_l, I_i, List.length_append, List.length_cons, List.length_nil, List.append_assoc, List.cons_append, List.nil_append]
    rw [show q + 1 - g.L.length = (q + 1 - (g.L.length + (0 + 1))) + 1 by omega, List.take_succ_cons] at h
    rw [show g.L.length + (0 + 1) + (l.I - (k.I + 1)).toNat = g.L.length + ((l.I - (k.I + 1)).toNat + 1) by omega]
    exact h
  ·rw [show (l.I - k.I).toNat = 0 by omega] at h
   simp only [List.replicate_zero, List.append_nil] at h
   rw [run_ite] at h
   split at h
   ·rename_i hc
    have := of_decide_eq_true hc
    omega
   ·exact rd_out h
 ·cases h
theorem metsT_step {hi lo : Int} {r u r' u' p : List (List D)} {k : Nat} (hk : k < p.length) : metsT hi r u lo r' u' p k (p.length - k) = List.replicate (ix (p.getD k []) 0).toNat (cellT hi r u lo r' u' (p.getD k [])) ++ metsT hi r u lo r' u' p (k + 1) (p.length - (k + 1)) := by
 rw [show p.length - k = (p.length - (k + 1)) + 1 by omega]
 rfl
theorem many_pc {p : List (List D)} (hm : manyP p) {k : Nat} (hk : k < p.length) : pcP (ix (p.getD k []) 0) (ix (p.getD k []) 1) (ix (p.getD k []) 2) (ix (p.getD k []) 3) (ix (p.getD k []) 4) := allFrom_iff.1 hm.2.2 k (Nat.zero_le _) (by omega)
theorem ok124_2 (q n : Nat) : LoopSimY C (n + 2) 2 124 (loopOf C.P 124 2) (some y124) q (mkLY 2 l124_2 (G124_2 q)) := by
 refine loop_ofY hC (sp := sp124) (lp := lp124 q) (sw := sw124) (Y := y124) (yOK_mk _ _ _) ⟨ok125 n, ok126 n, trivial⟩ trivial 2 [6, 11] (by kernel_rfl) (by kernel_rfl) (by kernel_rfl) (fun k hk L hL => by
  simp at hk; rcases hk with hk | hk <;> subst hk <;> cases hL; exact ok124_6 q n; exact ok124_11 q n) (by kernel_rfl) (fun ds => ((ds.getD 2 default).I - (ds.getD 3 default).I).toNat) fun ds rr h => ?_
 unfold G124_2 at h
 split at h
 ·rename_i g p' n i lo hi r u p c j y1 y2 y3 y4 y5 y6 y7 y8
  obtain ⟨hp, h⟩ := need_some h
  rw [yes_iff] at hp
  obtain ⟨h1, hm, h2, h3, h4, h5, h6, hg⟩ := hp
  have hml := hm.2.1
  refine ⟨by rw [fuelC]; show (n.I - i.I).toNat < _; omega, ?_⟩
  rw [show roundTY C (mkTabY sp124 (lp124 q) sw124 y124 q) 124 (loopOf C.P 124 2) 2 l124_2 [g, p', n, i, lo, hi, r, u, p, c, j, y1, y2, y3, y4, y5, y6, y7, y8] = _ from t124_2 q g p' n i lo hi r u p c j y1 y2 y3 y4 y5 y6 y7 y8]
  obtain ⟨k, hk⟩ : ∃ k : Nat, i.I = k := ⟨i.I.toNat, by omega⟩
  simp only [hk, h1, h2, Int.toNat_natCast, ix_def, Nat.reduceAdd, Int.sub_zero] at h h3 h4 ⊢
  refine rd_if (fun hlt => ?_) fun hge => ?_
  ·have hlt : k < p.L.length := by omega
   have hpc := many_pc hm hlt
   have hpr := pc_of hpc
   rw [metsT_step hlt] at h
   rw [wrap_succ (by omega)]
   have hcell : [D.i (quickV y2.I y3.L y4.L (ix (p.L.getD k []) 1) (ix (p.L.getD k []) 2) (ix (p.L.getD k []) 4)), D.i (slowV y5.I y7.L y8.L (ix (p.L.getD k []) 1) (ix (p.L.getD k []) 2) (ix (p.L.getD k []) 4))] = cellT y2.I y3.L y4.L y5.I y7.L y8.L (p.L.getD k []) := rfl
   rw [hcell]
   generalize cellT y2.I y3.L y4.L y5.I y7.L y8.L (p.L.getD k []) = cl at h ⊢
   generalize HR : metsT y2.I y3.L y4.L y5.I y7.L y8.L p.L (k + 1) (p.L.length - (k + 1)) = R at h
   refine rd_dec (by omega) (rd_yes ⟨h5, h6, hpc, .inl (by trivial)⟩ (rd_yes ⟨by omega, by omega, hpr.1.2, hg⟩ (rd_if (fun hc => ?_) fun hc => ?_)))
   ·simp only [List.length_append, List.length_replicate] at h
    rw [run_ite, if_pos (decide_eq_true (by omega))] at h
    rw [List.take_append_of_le_length (by rw [List.length_replicate]; omega)] at h
    exact rd_out h
   ·refine rd_again ((need_yes ⟨rfl, hm, rfl, by simp only [I_i]; omega, by simp only [I_i]; omega, h5, h6, by simp only [L_l, List.length_append, List.length_replicate]; omega⟩).trans ?_) (by
     show ((p.L.length : Int) - ((k + 1 : Nat) : Int)).toNat < (n.I - i.I).toNat
     omega)
    simp only [L_l, I_i, Int.toNat_natCast, HR, List.length_append, List.length_replicate, List.append_assoc]
    rw [List.take_append, List.take_of_length_le (l := List.replicate _ _) (by rw [List.length_replicate]; omega), List.length_replicate, ← List.append_assoc] at h
    simp only [List.length_append, List.length_replicate] at h
    rw [show q + 1 - g.L.length - (ix (p.L.getD k []) 0).toNat = q + 1 - (g.L.length + (ix (p.L.getD k []) 0).toNat) by omega] at h
    rw [show g.L.length + (ix (p.L.getD k []) 0).toNat + R.length = g.L.length + ((ix (p.L.getD k []) 0).toNat + R.length) by omega]
    simp only [← List.append_assoc] at h ⊢
    exact h
  ·rw [show p.L.length - k = 0 by omega] at h
   simp only [metsT, List.append_nil, List.length_nil, Nat.add_zero] at h
   rw [run_ite] at h
   split at h
   ·rename_i hc
    have := of_decide_eq_true hc
    omega
   ·exact rd_out h
 ·cases h
theorem ok124 (n : Nat) : IterOK C (n + 3) 124 y124 (mkFY s124 G124) := by
 refine iter_of hC (sp := sp124) (lp := lp124) (sw := sw124) (Y := y124) (yOK_mk _ _ _) ⟨ok125 n, ok126 n, trivial⟩ trivial (by kernel_rfl) [2] (by kernel_rfl) (by kernel_rfl) (by kernel_rfl) (fun q k hk L hL => by
  simp at hk; subst hk; cases hL; exact ok124_2 q n) fun ds L h q => ?_
 unfold G124 at h
 split at h
 ·rename_i lo hi r u p c j
  obtain ⟨hp, h⟩ := need_some h
  rw [yes_iff] at hp
  cases h
  refine (congrArg T.run (t124 q lo hi r u p c j)).trans (go_yes ⟨rfl, hp.2, rfl, by omega, by omega, hp.1, hp.1, by simp⟩ (go_if (fun cc => ?_) fun cc => ?_))
  ·simp only [List.nil_append, List.length_nil, Nat.sub_zero, run_leaf]
   rfl
  ·have cc : ¬ q < (metsT hi.I r.L u.L lo.I r.L u.L p.L 0 p.L.length).length := fun h => cc (by simpa using h)
   have cc' : (mets lo.I hi.I r.L u.L p.L).length ≤ q + 1 := by
    show (metsT hi.I r.L u.L lo.I r.L u.L p.L 0 p.L.length).length ≤ q + 1
    omega
   simp only [List.nil_append, run_leaf]
   rw [List.take_of_length_le cc']
   rfl
 ·cases h
theorem ok91 (n : Nat) : FnOKW C (n + 1) 91 (mkFW s91 G91) := by
 refine fn_ofW hC (sp := sp91) (lp := lp91) (sw := sw91) trivial trivial (by kernel_rfl) [] (by kernel_rfl) rfl (fun k hk => by cases hk) fun ds rr h => ?_
 unfold G91 at h
 split at h
 ·exact (congrArg T.run (t91 _ _ _ _ _ _ _)).trans h
 ·cases h
theorem ok41 (n : Nat) : FnOK C (n + 5) 41 (mkF s41 G41) := by
 refine fn_ofS hC (sp := sp41) (lp := lp41) (sw := sw41) ⟨ok51 n, ok53 (n + 3), trivial⟩ ⟨ok52 (n + 2), trivial⟩ (by kernel_rfl) [] (by kernel_rfl) rfl (fun k hk => by cases hk) fun ds rr h => ?_
 unfold G41 at h
 split at h
 ·rename_i p c j
  refine (congrArg T.run (t41 p c j)).trans ?_
  cases hr : roadOk p.L c.L j.L with
  | false =>
    rw [hr] at h
    exact go_false rfl (go_true rfl h)
  | true =>
    rw [hr] at h
    have hm : manyP p.L := by
     unfold roadOk sizesOk at hr
     simp only [Bool.and_eq_true, decide_eq_true_eq, Lite.within_iff] at hr
     exact ⟨by omega, by omega, hr.1.1.1.2⟩
    have htk : (begR p.L).take (p.L.length + 1) = begR p.L := List.take_of_length_le (by rw [begR_length]; omega)
    have hln : ix ((begR p.L).getD p.L.length []) 0 = lenR p.L := begR_get (Nat.le_refl _)
    have hbl := begR_length p.L
    simp only [Int.toNat_natCast, htk, hln]
    exact go_true rfl (go_false rfl (go_yes hm (go_dec (by omega) (go_yes ⟨hm, by trivial⟩ h))))
 ·cases h
set_option maxRecDepth 100000
theorem metsT_len {hi lo : Int} {r u r' u' p : List (List D)} : ∀ (k i : Nat), (∀ j, i ≤ j → j < i + k → 0 ≤ ix (p.getD j []) 0) → ((metsT hi r u lo r' u' p i k).length : Int) = lenFrom p i k
 | 0, _, _ => rfl
 | k + 1, i, h => by
   have h1 := metsT_len (hi := hi) (lo := lo) (r := r) (u := u) (r' := r') (u' := u') (p := p) k (i + 1) fun j a b => h j (by omega) (by omega)
   have h2 := h i (Nat.le_refl _) (by omega)
   simp only [metsT, lenFrom, List.length_append, List.length_replicate]
   omega
theorem mets_len {lo hi : Int} {r u p : List (List D)} (hm : manyP p) : ((mets lo hi r u p).length : Int) = lenR p := metsT_len _ _ fun j _ hj => by
 have := piece_rng hm.2.2 (k := j) (by omega)
 omega
theorem mets_P {lo hi : Int} {r u p : List (List D)} (hs : spP lo hi r u) (hm : manyP p) : ∀ (k i : Nat), i + k ≤ p.length → ∀ x ∈ metsT hi r u lo r u p i k, metP x ∧ ix x 0 ≤ ix x 1
 | 0, _, _, x, hx => by cases hx
 | k + 1, i, h, x, hx => by
   simp only [metsT, List.mem_append] at hx
   rcases hx with hx | hx
   ·obtain ⟨-, rfl⟩ := List.mem_replicate.1 hx
    have hp := piece_rng hm.2.2 (k := i) (by omega)
    have hq := quick_slow hs (e := ix (p.getD i []) 4) (by omega) (ix (p.getD i []) 1) (ix (p.getD i []) 2)
    exact ⟨⟨rfl, ⟨hq.1, by show quickV hi r u _ _ _ ≤ _; omega⟩, by show 0 ≤ slowV lo r u _ _ _; omega, by show slowV lo r u _ _ _ ≤ _; omega⟩, hq.2.1⟩
   ·exact mets_P hs hm k (i + 1) (by omega) x hx
theorem mets_all {lo hi : Int} {r u p : List (List D)} (hs : spP lo hi r u) (hm : manyP p) : ∀ x ∈ mets lo hi r u p, metP x ∧ ix x 0 ≤ ix x 1 := mets_P hs hm _ _ (by omega)
theorem bytes178 : Try.prog.types[178].bytes = 16 := by kernel_rfl
theorem sumI_cons (k : Nat) (x : List D) (L : List (List D)) : sumI k (x :: L) = ix x k + sumI k L := by simp [sumI]
theorem fold43 (L : List (List D)) : ∀ (ds : List D) (rr : Ex × List D), (G43_8 L ds).run = some rr → FoldR (fun ds el => (roundRT C tab43 43 (rangeOf C.P 43 8) 0 4 [4, 5, 6, 8, 9, 32] h43_8 y124 ds el).run) y124.give (fun a b => headA h43_8 a = headA h43_8 b) ds L rr.1 rr.2 := by
 induction L with
 | nil =>
   intro ds rr h
   unfold G43_8 at h
   split at h
   ·rename_i b n a d p c j s o
    obtain ⟨hp, h⟩ := need_some h
    cases h
    refine .nil ?_
    have e : headA h43_8 [b, n, a, d, p, c, j, s, o] = headA h43_8 [.b b.B, .i n.I, .i a.I, .i d.I, .l p.L, .l c.L, .l j.L, .i s.I, .l o.L] := rfl
    rw [e]
    simp only [sumI, List.map_nil, List.sum_nil, Int.add_zero, List.length_nil, outM, show ((0 : Nat) : Int) = 0 from rfl]
   ·cases h
 | cons x L ih =>
   intro ds rr h
   unfold G43_8 at h
   split at h
   ·rename_i b n a d p c j s o
    obtain ⟨hp, h⟩ := need_some h
    rw [yes_iff] at hp
    obtain ⟨⟨s1, s2⟩, hl, hy, ha, hd⟩ := hp
    have hx := hy x List.mem_cons_self
    have hys : ∀ y ∈ L, metP y := fun y hy' => hy y (List.mem_cons_of_mem _ hy')
    obtain ⟨hx1, hx2, hx3⟩ := hx
    generalize ix x 0 = g at hx1 hx2
    generalize ix x 1 = k at hx1 hx3
    subst hx1
    simp only [List.length_cons] at hl
    have hround := congrArg T.run (t43_r8 b n a d p c j s o (.i g) (.i k))
    have w1 : IntKind.i64.wrap (a.I + g) = a.I + g := wrap_id (by omega) (by omega)
    have w2 : IntKind.i64.wrap (d.I + k) = d.I + k := wrap_id (by omega) (by omega)
    simp only [I_i, w1, w2, List.length_cons, List.length_nil, Nat.zero_add, take1, bytes178] at hround
    refine .again (x' := []) (ds' := [.b b.B, .i n.I, .i (a.I + g), .i (d.I + k), .l p.L, .l c.L, .l j.L, .i (s.I.toNat + 1 : Nat), .l (o.L.take s.I.toNat ++ [[.i (a.I + g), .i (d.I + k)]])]) ?_ (fun h => by cases h) (ih _ _ ?_)
    ·exact hround.trans (go_need rfl (go_need rfl (go_need rfl (go_need rfl (go_need rfl (go_need rfl (go_need rfl (go_false rfl (go_dec (by omega) rfl)))))))))
    ·refine (need_yes ⟨⟨by simp only [I_i]; omega, by simp only [I_i, L_l, List.length_append, List.length_take, List.length_cons, List.length_nil]; omega⟩, by simp only [I_i]; omega, hys, ⟨by simp only [I_i]; omega, by simp only [I_i]; omega⟩, by simp only [I_i]; omega, by simp only [I_i]; omega⟩).trans ?_
     rw [← h]
     simp only [I_i, L_l, B_b, Int.toNat_natCast, sumI_cons, List.length_cons]
     have e0 : ix [D.i g, D.i k] 0 = g := rfl
     have e1 : ix [D.i g, D.i k] 1 = k := rfl
     have e2 : outM (a.I + g) (d.I + k) (o.L.take s.I.toNat ++ [[.i (a.I + g), .i (d.I + k)]]) (s.I.toNat + 1) L = outM a.I d.I o.L s.I.toNat ([.i g, .i k] :: L) := by
      cases L with
      | nil => rfl
      | cons y L =>
        simp only [outM]
        rw [List.take_of_length_le (by rw [List.length_append, List.length_take, List.length_cons, List.length_nil]; omega)]
        simp only [cumL, e0, e1, List.append_assoc, List.cons_append, List.nil_append]
     rw [e0, e1, e2, show ((s.I.toNat + 1 : Nat) : Int) + (L.length : Int) = s.I + ((L.length + 1 : Nat) : Int) by omega, Int.add_assoc, Int.add_assoc]
   ·cases h
theorem ok43_8 (n : Nat) : CodeSim C (n + 5) 0 43 (rangeOf C.P 43 8).code none 0 (rangeS 0 [4, 5, 6, 8, 9, 32] (rangeOf C.P 43 8).1 it43_8 h43_8 G43_8) :=
 range_of hC (sp := sp43) (lp := lp43) (sw := sw43) (rg := rg43) (Y := y124) (yOK_mk _ _ _) ⟨ok41 n, ok90 n, trivial⟩ ⟨ok91 (n + 4), trivial⟩ 8 0 4 [] (by kernel_rfl) rfl (by kernel_rfl) (by exact ⟨by kernel_rfl, by kernel_rfl⟩) (fun k hk => by cases hk)
  (by kernel_rfl) (by kernel_rfl) (it := it43_8) ⟨ok124 (n + 2), trivial⟩ fun L ds rr h => fold43 L ds rr h
theorem cumL_len : ∀ (L : List (List D)) (a d : Int), (cumL a d L).length = L.length
 | [], _, _ => rfl
 | x :: L, a, d => by simp only [cumL, List.length_cons, cumL_len L]
theorem cumL_get : ∀ (L : List (List D)) (a d : Int) (j : Nat), j < L.length → (cumL a d L).getD j [] = [.i (a + sumI 0 (L.take (j + 1))), .i (d + sumI 1 (L.take (j + 1)))]
 | x :: L, a, d, 0, _ => by simp [cumL, sumI]
 | x :: L, a, d, j + 1, h => by
   have := cumL_get L (a + ix x 0) (d + ix x 1) j (by simpa using h)
   simp only [cumL, List.getD_cons_succ, this, List.take_succ_cons, sumI_cons, Int.add_assoc]
theorem sums_len {lo hi : Int} {r u p : List (List D)} (hm : manyP p) : ((sumsM lo hi r u p).length : Int) = lenR p + 1 := by
 have := mets_len (lo := lo) (hi := hi) (r := r) (u := u) hm
 simp only [sumsM, List.length_cons, cumL_len]
 omega
theorem sums_get {lo hi : Int} {r u p : List (List D)} {j : Nat} (h : j ≤ (mets lo hi r u p).length) : (sumsM lo hi r u p).getD j [] = [.i (sumI 0 ((mets lo hi r u p).take j)), .i (sumI 1 ((mets lo hi r u p).take j))] := by
 cases j with
 | zero => rfl
 | succ j =>
   unfold sumsM
   rw [List.getD_cons_succ, cumL_get _ _ _ _ (by omega), Int.zero_add, Int.zero_add]
theorem sumI_rng : ∀ (L : List (List D)) (k : Nat), k ≤ 1 → (∀ x ∈ L, metP x) → 0 ≤ sumI k L ∧ sumI k L ≤ 20000000 * L.length
 | [], k, _, _ => by simp [sumI]
 | x :: L, k, hk, h => by
   have h1 := sumI_rng L k hk fun y hy => h y (List.mem_cons_of_mem _ hy)
   have h2 := (h x List.mem_cons_self).2
   rw [sumI_cons, List.length_cons]
   have : k = 0 ∨ k = 1 := by omega
   rcases this with rfl | rfl <;> omega
theorem sums_P {lo hi : Int} {r u p : List (List D)} (hs : spP lo hi r u) (hm : manyP p) (hl : lenR p ≤ 100000) : sumsP (sumsM lo hi r u p) := by
 intro j
 have hlen := mets_len (lo := lo) (hi := hi) (r := r) (u := u) hm
 by_cases hj : j ≤ (mets lo hi r u p).length
 ·rw [sums_get hj]
  have hx : ∀ x ∈ (mets lo hi r u p).take j, metP x := fun x hx => (mets_all hs hm x (List.mem_of_mem_take hx)).1
  have h0 := sumI_rng _ 0 (by omega) hx
  have h1 := sumI_rng _ 1 (by omega) hx
  have hl' : ((mets lo hi r u p).take j).length ≤ (mets lo hi r u p).length := by rw [List.length_take]; omega
  refine ⟨⟨h0.1, ?_⟩, h1.1, ?_⟩
  ·show sumI 0 ((mets lo hi r u p).take j) ≤ _; omega
  ·show sumI 1 ((mets lo hi r u p).take j) ≤ _; omega
 ·have e : (sumsM lo hi r u p).getD j [] = [] := by
   rw [List.getD_eq_getElem?_getD, List.getElem?_eq_none (by simp only [sumsM, List.length_cons, cumL_len]; omega)]
   rfl
  rw [e]
  decide
theorem ok43 (n : Nat) : FnOK C (n + 6) 43 (mkF s43 G43) := by
 refine fn_ofR hC (sp := sp43) (lp := lp43) (sw := sw43) (rg := rg43) ⟨ok41 n, ok90 n, trivial⟩ ⟨ok91 (n + 4), trivial⟩ (by kernel_rfl) [] [8] (by kernel_rfl) rfl (by kernel_rfl) (by kernel_rfl) (fun k hk => by cases hk) (fun k hk L hL => by
  simp at hk; subst hk; cases hL; exact ok43_8 n) fun ds rr h => ?_
 unfold G43 at h
 split at h
 ·rename_i p c j lo hi r u
  refine (congrArg T.run (t43 p c j lo hi r u)).trans ?_
  generalize fnT C tab43 43 s43 [p, c, j, lo, hi, r, u] = XX
  cases hr : roadOk p.L c.L j.L with
  | false =>
    rw [hr, Bool.false_and] at h
    exact go_false rfl (go_true rfl h)
  | true =>
    rw [hr, Bool.true_and] at h
    refine go_true rfl (go_false rfl ?_)
    cases hs : speedsOk lo.I hi.I r.L u.L with
    | false =>
      rw [hs] at h
      exact go_false rfl (go_true rfl h)
    | true =>
      rw [hs] at h
      obtain ⟨hm, -, -, hl, -⟩ := road_of (p := p.L) (c := c.L) (j := j.L) hr
      have hmp := hm.2.1
      have hlen := mets_len (lo := lo.I) (hi := hi.I) (r := r.L) (u := u.L) hm
      have hlb : 1 ≤ lenR p.L := by
       have h1 := lenFrom_step (p := p.L) (k := 0) (by have := hm.1; omega)
       have h2 := lenFrom_pos (l := p.L) (p.L.length - (0 + 1)) (0 + 1) fun j _ y => by have := piece_rng hm.2.2 (k := j) (by omega); omega
       have h3 := piece_rng hm.2.2 (k := 0) (by have := hm.1; omega)
       unfold lenR
       rw [Nat.sub_zero] at h1
       omega
      have w1 : IntKind.i64.wrap (lenR p.L + 1) = lenR p.L + 1 := wrap_id (by omega) (by omega)
      have z1 : Int.toNat 1 = 1 := rfl
      have hall := mets_all (lo := lo.I) (hi := hi.I) (r := r.L) (u := u.L) hs hm
      have hout : outM 0 0 (List.replicate (lenR p.L + 1).toNat [.i 0, .i 0]) 1 (mets lo.I hi.I r.L u.L p.L) = sumsM lo.I hi.I r.L u.L p.L := by
       unfold sumsM
       cases hmt : mets lo.I hi.I r.L u.L p.L with
       | nil => rw [hmt] at hlen; simp at hlen; omega
       | cons x L =>
         simp only [outM]
         rw [show (lenR p.L + 1).toNat = (lenR p.L).toNat + 1 by omega, List.replicate_succ]
         rfl
      have hsl := sums_len (lo := lo.I) (hi := hi.I) (r := r.L) (u := u.L) hm
      have htk : (sumsM lo.I hi.I r.L u.L p.L).take (lenR p.L + 1).toNat = sumsM lo.I hi.I r.L u.L p.L := List.take_of_length_le (by omega)
      simp only [w1, z1, bytes178, List.length_replicate, hout, htk, show ((1 : Nat) : Int) = 1 from rfl]
      refine go_true rfl (go_false rfl (go_dec ⟨by omega, by omega, by omega, by omega⟩ (go_yes ⟨hs, hm⟩ (go_yes ⟨⟨by omega, by omega⟩, by omega, fun x hx => (hall x hx).1, ⟨by omega, by omega⟩, by omega, by omega⟩ (go_dec (by omega) (go_dec (by omega) (go_dec (by omega) ?_)))))))
      exact h
 ·cases h
theorem ok12 (n : Nat) : FnOK C (n + 7) 12 (mkF s12 G12) := by
 refine fn_ofS hC (sp := sp12) (lp := lp12) (sw := sw12) ⟨ok43 n, ok44 (n + 4), ok45 (n + 5), trivial⟩ trivial (by kernel_rfl) [] (by kernel_rfl) rfl (fun k hk => by cases hk) fun ds rr h => ?_
 unfold G12 at h
 split at h
 ·rename_i p c j lo hi r u a b
  refine (congrArg T.run (t12 p c j lo hi r u a b)).trans ?_
  generalize fnT C tab12 12 s12 [p, c, j, lo, hi, r, u, a, b] = XX
  unfold betwB at h
  cases hb : (roadOk p.L c.L j.L && speedsOk lo.I hi.I r.L u.L) with
  | false =>
    rw [hb, Bool.false_and, Bool.false_and, Bool.false_and] at h
    exact go_false rfl (go_true rfl h)
  | true =>
    rw [hb, Bool.true_and] at h
    rw [Bool.and_eq_true] at hb
    obtain ⟨hr, hs⟩ := hb
    obtain ⟨hm, -, -, hl, -⟩ := road_of (p := p.L) (c := c.L) (j := j.L) hr
    have hsl := sums_len (lo := lo.I) (hi := hi.I) (r := r.L) (u := u.L) hm
    have hsp := sums_P (lo := lo.I) (hi := hi.I) (r := r.L) (u := u.L) hs hm hl
    have e1 : ((sumsM lo.I hi.I r.L u.L p.L).length : Int) - 1 = lenR p.L := by omega
    simp only [e1]
    refine go_true rfl (go_false rfl (go_yes (by omega) ?_))
    cases ha : within a.I 0 (lenR p.L) with
    | false =>
      rw [ha, Bool.false_and, Bool.false_and] at h
      exact go_true rfl h
    | true =>
      rw [ha, Bool.true_and] at h
      refine go_false rfl (go_yes (by omega) ?_)
      cases hb : within b.I 0 (lenR p.L) with
      | false =>
        rw [hb, Bool.false_and] at h
        exact go_true rfl h
      | true =>
        rw [hb, Bool.true_and] at h
        have ha := Lite.within_iff.1 ha
        have hb := Lite.within_iff.1 hb
        refine go_false rfl (go_if (fun hc => ?_) fun hc => ?_)
        ·rw [run_ite, if_neg (by simp; omega)] at h
         exact h
        ·rw [run_ite, if_pos (by simp; omega)] at h
         refine go_yes ⟨hsp, .inl (by trivial), by omega, by omega⟩ (go_yes ⟨hsp, .inr (by trivial), by omega, by omega⟩ ?_)
         exact h
 ·cases h
def s4 : Sig := ⟨[.agg [.k (.ro [.int .i64, .int .i64, .int .i64, .int .i64, .int .i64]), .k (.ro [.int .i64, .int .i64]), .k (.ro [.int .i64, .int .i64, .int .i64])], .agg [.k (.ro [.ro [.int .i64, .int .i64]]), .k (.ro [.ro [.int .i64, .int .i64]]), .k (.ro [.int .i64]), .k (.int .i64)], .k (.int .i64), .k (.int .i64), .k .bool, .k (.int .i64)], [(.k .bool, [])]⟩
def s95 : Sig := ⟨[.agg [.k (.int .i64), .k (.int .i64), .k (.int .i64)]], [(.k .bool, [])]⟩
def s127 : Sig := ⟨[.k (.ro [.int .i64, .int .i64, .int .i64]), .fn 95 [] []], [(.k (.int .i64), [])]⟩
def l127_2 : LSig := mkLS [0, 1, 7, 8] [(19, [(0, .k (.ro [.int .i64, .int .i64, .int .i64])), (1, .fn 95 [] []), (7, .k (.int .i64)), (8, .k (.int .i64))], [])] [(.ret, [4], [(19, [(4, .k (.int .i64))], [])]), (.exit 0, [], [(19, [], [])])]
def s94 : Sig := ⟨[.k (.ro [.int .i64, .int .i64, .int .i64]), .fn 95 [] []], [(.k .bool, [])]⟩
def s47 : Sig := ⟨[.k (.int .i64), .k (.int .i64), .k (.int .i64), .k (.ro [.int .i64, .int .i64, .int .i64])], [(.k .bool, [])]⟩
def s48 : Sig := ⟨[.k (.int .i64), .k (.int .i64), .k (.int .i64), .k (.ro [.int .i64, .int .i64, .int .i64]), .k (.ro [.int .i64])], [(.k .bool, [])]⟩
def l48_3 : LSig := mkLS [0, 1, 4, 11, 12, 17, 18, 19] [(51, [(0, .k (.int .i64)), (1, .k (.int .i64)), (4, .k (.ro [.int .i64])), (11, .k (.int .i64)), (12, .k (.int .i64)), (17, .k (.ro [.int .i64, .int .i64, .int .i64])), (18, .k (.int .i64)), (19, .k (.int .i64))], [])] [(.ret, [10], [(51, [(10, .k .bool)], [])]), (.exit 0, [], [(51, [], [])])]
def s13 : Sig := ⟨[.k (.int .i64), .k (.int .i64), .k (.int .i64), .k (.ro [.int .i64, .int .i64, .int .i64])], [(.k .bool, [])]⟩
def s14 : Sig := ⟨[.k (.int .i64), .k (.int .i64), .k (.int .i64), .k (.ro [.int .i64, .int .i64, .int .i64])], [(.tup [.nils, .k (.int .i64)], []), (.tup [.sl 0 1, .k (.int .i64)], [.row [.int .i64]])]⟩
def l14_8 : LSig := mkLS [0, 1, 2, 3, 10, 11, 12, 13, 34, 35, 36] [(114, [(0, .k (.int .i64)), (1, .k (.int .i64)), (2, .k (.int .i64)), (3, .k (.ro [.int .i64, .int .i64, .int .i64])), (10, .k (.int .i64)), (11, .sl 0 1), (12, .k (.int .i64)), (13, .k (.int .i64)), (34, .k (.ro [.int .i64, .int .i64, .int .i64])), (35, .k (.int .i64)), (36, .k (.int .i64))], [.row [.int .i64]])] [(.exit 0, [0, 1, 2, 3, 10, 11], [(114, [(0, .k (.int .i64)), (1, .k (.int .i64)), (2, .k (.int .i64)), (3, .k (.ro [.int .i64, .int .i64, .int .i64])), (10, .k (.int .i64)), (11, .sl 0 1)], [.row [.int .i64]])])]
def l14_15 : LSig := mkLS [0, 1, 2, 3, 10, 11, 16] [(114, [(0, .k (.int .i64)), (1, .k (.int .i64)), (2, .k (.int .i64)), (3, .k (.ro [.int .i64, .int .i64, .int .i64])), (10, .k (.int .i64)), (11, .sl 0 1), (16, .k (.int .i64))], [.row [.int .i64]])] [(.exit 2, [0, 1, 2, 3, 10, 11], [(114, [(0, .k (.int .i64)), (1, .k (.int .i64)), (2, .k (.int .i64)), (3, .k (.ro [.int .i64, .int .i64, .int .i64])), (10, .k (.int .i64)), (11, .sl 0 1)], [.row [.int .i64]])])]
def l14_21 : LSig := mkLS [0, 1, 2, 3, 17, 18, 81, 82, 83] [(114, [(0, .k (.int .i64)), (1, .k (.int .i64)), (2, .k (.int .i64)), (3, .k (.ro [.int .i64, .int .i64, .int .i64])), (17, .sl 0 1), (18, .k (.int .i64)), (81, .sl 1 1), (82, .k (.int .i64)), (83, .k (.int .i64))], [.row [.int .i64], .row [.int .i64]])] [(.ret, [8, 9], [(114, [(8, .nils), (9, .k (.int .i64))], [])]), (.exit 4, [0, 1, 2, 3, 17], [(114, [(0, .k (.int .i64)), (1, .k (.int .i64)), (2, .k (.int .i64)), (3, .k (.ro [.int .i64, .int .i64, .int .i64])), (17, .sl 0 1)], [.row [.int .i64]])])]
noncomputable section
def legP (a b c : Int) : Bool := within a 0 b && decide (b ≤ 1000000) && within c 0 1000000
def legOk (c : List D) : Bool := legP (ix c 0) (ix c 1) (ix c 2)
def legAt (l : List (List D)) (j : Nat) : Bool := legOk (l.getD j [])
def tankOk (t r s : Int) (l : List (List D)) : Bool := within t 1 1000000 && within r 0 t && within s 0 t && decide (l.length ≤ 50) && allFrom (legAt l) 0 l.length
def amOk (l am : List (List D)) (j : Nat) : Bool := within (ix (am.getD j []) 0) 0 (ix (l.getD j []) 2)
def safeFrom (t r : Int) (l am : List (List D)) : Nat → Nat → Int → Int → Bool
 | _, 0, _, _ => true
 | i, k + 1, lo, hi => if hi + ix (am.getD i []) 0 > t then false else if lo + ix (am.getD i []) 0 - ix (l.getD i []) 1 < r then false
   else safeFrom t r l am (i + 1) k (lo + ix (am.getD i []) 0 - ix (l.getD i []) 1) (hi + ix (am.getD i []) 0 - ix (l.getD i []) 0)
def sameAt (a b : List (List D)) (j : Nat) : Bool := ix (a.getD j []) 0 == ix (b.getD j []) 0
def sameL (a b : List (List D)) : Bool := decide (a.length = b.length) && allFrom (sameAt a b) 0 a.length
def tankPre (t r : Int) (l am : List (List D)) : Prop := 0 ≤ r ∧ t ≤ 1000000 ∧ am.length = l.length ∧ l.length ≤ 50 ∧ allFrom (legAt l) 0 l.length = true
def bounds (t lo hi : Int) : Prop := 0 ≤ lo ∧ lo ≤ hi ∧ hi ≤ t
def G95 (ds : List D) : T (List D) := match ds with
 | [a, b, c] => .leaf [.b (!legP a.I b.I c.I)]
 | _ => .fail
def G127 (ds : List D) : T (List D) := match ds with
 | [l] => .need (yes (l.L.length < big)) (.leaf [.i (firstFrom (fun j => !legAt l.L j) 0 l.L.length)])
 | _ => .fail
def G127_2 (ds : List D) : T (Ex × List D) := match ds with
 | [l, n, i] => .need (yes (l.L.length < big ∧ n.I = l.L.length ∧ 0 ≤ i.I ∧ i.I ≤ n.I))
     (.ite (decide (firstFrom (fun j => !legAt l.L j) i.I.toNat (l.L.length - i.I.toNat) ≥ 0)) (.leaf (.ret, [.i (firstFrom (fun j => !legAt l.L j) i.I.toNat (l.L.length - i.I.toNat))])) (.leaf (.exit 0, [])))
 | _ => .fail
def G94 (ds : List D) : T (List D) := match ds with
 | [l] => .need (yes (l.L.length < big)) (.leaf [.b (!allFrom (legAt l.L) 0 l.L.length)])
 | _ => .fail
def G47 (ds : List D) : T (List D) := match ds with
 | [t, r, s, l] => .need (yes (l.L.length < big)) (.leaf [.b (tankOk t.I r.I s.I l.L)])
 | _ => .fail
def G48 (ds : List D) : T (List D) := match ds with
 | [t, r, s, l, am] => .need (yes (tankPre t.I r.I l.L am.L ∧ allFrom (amOk l.L am.L) 0 l.L.length = true ∧ bounds t.I s.I s.I)) (.leaf [.b (safeFrom t.I r.I l.L am.L 0 l.L.length s.I s.I)])
 | _ => .fail
def G48_3 (ds : List D) : T (Ex × List D) := match ds with
 | [t, r, am, lo, hi, l, n, i] => .need (yes (tankPre t.I r.I l.L am.L ∧ allFrom (amOk l.L am.L) 0 l.L.length = true ∧ bounds t.I lo.I hi.I ∧ n.I = l.L.length ∧ 0 ≤ i.I ∧ i.I ≤ n.I))
     (.ite (safeFrom t.I r.I l.L am.L i.I.toNat (l.L.length - i.I.toNat) lo.I hi.I) (.leaf (.exit 0, [])) (.leaf (.ret, [.b false])))
 | _ => .fail
def G13 (ds : List D) : T (List D) := match ds with
 | [t, r, s, l] => .leaf [.b (tankOk t.I r.I s.I l.L)]
 | _ => .fail
end
noncomputable section
def mkI (xs : List Int) : List (List D) := xs.map fun n => [.i n]
def tabI (n : Nat) (f : Nat → Int) : List (List D) := mkI ((List.range n).map f)
def leastOf (l : List (List D)) (j : Nat) : Int := ix (l.getD j []) 0
def mostOf (l : List (List D)) (j : Nat) : Int := ix (l.getD j []) 1
def fillOf (l : List (List D)) (j : Nat) : Int := ix (l.getD j []) 2
def needAt (l : List (List D)) (r s : Int) : Nat → Int
 | 0 => r - s
 | j + 1 => needAt l r s j + mostOf l j
def upAt (l : List (List D)) (r s : Int) : Nat → Int
 | 0 => 0
 | j + 1 => max (upAt l r s j) (needAt l r s (j + 1))
def downAt (l : List (List D)) (r s : Int) : Nat → Nat → Int
 | 0, j => upAt l r s (j + 1)
 | k + 1, j => max (upAt l r s (j + 1)) (downAt l r s k (j + 1) - fillOf l (j + 1))
def sumAt (l : List (List D)) (r s : Int) (j : Nat) : Int := downAt l r s (l.length - 1 - j) j
def outAt (l : List (List D)) (r s : Int) : Nat → Int
 | 0 => sumAt l r s 0
 | j + 1 => sumAt l r s (j + 1) - sumAt l r s j
def beforeAt (l : List (List D)) (r s : Int) : Nat → Int
 | 0 => 0
 | j + 1 => sumAt l r s j
def upTo (l : List (List D)) (r s : Int) (i : Nat) : List (List D) := tabI l.length fun j => if j < i then upAt l r s (j + 1) else 0
def downTo (l : List (List D)) (r s : Int) (i : Int) : List (List D) := tabI l.length fun j => if i < (j : Int) then sumAt l r s j else upAt l r s (j + 1)
def outTo (l : List (List D)) (r s : Int) (i : Nat) : List (List D) := tabI l.length fun j => if j < i then outAt l r s j else 0
def sums (l : List (List D)) (r s : Int) : List (List D) := tabI l.length (sumAt l r s)
def outs (l : List (List D)) (r s : Int) : List (List D) := tabI l.length (outAt l r s)
def outOk (l : List (List D)) (r s : Int) (j : Nat) : Bool := decide (outAt l r s j ≤ fillOf l j)
def fuelOk (t r s : Int) (l : List (List D)) : Bool := allFrom (outOk l r s) 0 l.length && safeFrom t r l (outs l r s) 0 l.length s s
def tankP (t r s : Int) (l : List (List D)) : Prop := tankOk t r s l = true
def G14 (ds : List D) : T (List D) := match ds with
 | [t, r, s, l] => .need (yes (l.L.length < big)) (.ite (tankOk t.I r.I s.I l.L) (.ite (fuelOk t.I r.I s.I l.L) (.leaf [.i 1, .i l.L.length, .i 0, .l (outs l.L r.I s.I)]) (.leaf [.i 0, .i 5])) (.leaf [.i 0, .i 2]))
 | _ => .fail
def G14_8 (ds : List D) : T (Ex × List D) := match ds with
 | [t, r, s, l, n, m, need, most, l', n', i, row] => .need (yes (tankP t.I r.I s.I l.L ∧ n.I = l.L.length ∧ m.I = l.L.length ∧ l'.L = l.L ∧ n'.I = l.L.length ∧ 0 ≤ i.I ∧ i.I ≤ l.L.length ∧
       need.I = needAt l.L r.I s.I i.I.toNat ∧ most.I = upAt l.L r.I s.I i.I.toNat ∧ row.L = upTo l.L r.I s.I i.I.toNat))
     (.leaf (.exit 0, [.i t.I, .i r.I, .i s.I, .l l.L, .i l.L.length, .i l.L.length, .l (upTo l.L r.I s.I l.L.length)]))
 | _ => .fail
def G14_15 (ds : List D) : T (Ex × List D) := match ds with
 | [t, r, s, l, n, m, i, row] => .need (yes (tankP t.I r.I s.I l.L ∧ n.I = l.L.length ∧ m.I = l.L.length ∧ -2 ≤ i.I ∧ i.I ≤ l.L.length - 2 ∧ row.L = downTo l.L r.I s.I i.I))
     (.leaf (.exit 2, [.i t.I, .i r.I, .i s.I, .l l.L, .i l.L.length, .i l.L.length, .l (sums l.L r.I s.I)]))
 | _ => .fail
def G14_21 (ds : List D) : T (Ex × List D) := match ds with
 | [t, r, s, l, m, b, m', n, i, row, row'] => .need (yes (tankP t.I r.I s.I l.L ∧ m.I = l.L.length ∧ m'.I = l.L.length ∧ n.I = l.L.length ∧ 0 ≤ i.I ∧ i.I ≤ l.L.length ∧ b.I = beforeAt l.L r.I s.I i.I.toNat ∧
       row.L = outTo l.L r.I s.I i.I.toNat ∧ row'.L = sums l.L r.I s.I))
     (.ite (allFrom (outOk l.L r.I s.I) i.I.toNat (l.L.length - i.I.toNat)) (.leaf (.exit 4, [.i t.I, .i r.I, .i s.I, .l l.L, .i l.L.length, .l (outs l.L r.I s.I)])) (.leaf (.ret, [.i 5])))
 | _ => .fail
end
noncomputable def sp95 : SpL := [(64, mkF s64 G64)]
noncomputable def lp95 : LpL := []
noncomputable def sw95 : SwL := []
noncomputable def tab95 : Tab := mkTab sp95 lp95 sw95
noncomputable def sp127 : SpL := [(95, mkF s95 G95)]
noncomputable def lp127 : LpL := [(2, mkL l127_2 G127_2)]
noncomputable def sw127 : SwL := []
noncomputable def tab127 : Tab := mkTab sp127 lp127 sw127
noncomputable def sp94 : SpL := [(127, mkF s127 G127), (95, mkF s95 G95)]
noncomputable def lp94 : LpL := []
noncomputable def sw94 : SwL := []
noncomputable def tab94 : Tab := mkTab sp94 lp94 sw94
noncomputable def sp47 : SpL := [(64, mkF s64 G64), (94, mkF s94 G94)]
noncomputable def lp47 : LpL := []
noncomputable def sw47 : SwL := []
noncomputable def tab47 : Tab := mkTab sp47 lp47 sw47
noncomputable def sp48 : SpL := []
noncomputable def lp48 : LpL := [(3, mkL l48_3 G48_3)]
noncomputable def sw48 : SwL := []
noncomputable def tab48 : Tab := mkTab sp48 lp48 sw48
noncomputable def sp14 : SpL := [(47, mkF s47 G47), (48, mkF s48 G48)]
noncomputable def lp14 : LpL := [(8, mkL l14_8 G14_8), (15, mkL l14_15 G14_15), (21, mkL l14_21 G14_21)]
noncomputable def sw14 : SwL := []
noncomputable def tab14 : Tab := mkTab sp14 lp14 sw14
set_option linter.unusedVariables false
set_option maxRecDepth 100000
theorem t95 (a b c : D) : fnT C tab95 95 s95 [a, b, c] =
 T.ite (!within a.I (0 : Int) b.I) (T.leaf [D.b true]) (T.ite (decide (b.I > (1000000 : Int))) (T.leaf [D.b true]) (T.leaf [D.b !within c.I (0 : Int) (1000000 : Int)])) := by kernel_rfl
theorem t127 (a : D) : fnT C tab127 127 s127 [a] =
 T.need (yes (a.L.length < big ∧ (a.L.length : Int) = (a.L.length : Int) ∧ (0 : Int) ≤ (0 : Int) ∧ (0 : Int) ≤ (a.L.length : Int))) (T.ite (decide (firstFrom (fun j => !legAt a.L j) (Int.toNat (0 : Int)) (a.L.length - Int.toNat (0 : Int)) ≥ (0 : Int))) (T.leaf [D.i (firstFrom (fun j => !legAt a.L j) (Int.toNat (0 : Int)) (a.L.length - Int.toNat (0 : Int)))]) (T.leaf [D.i (-1 : Int)])) := by kernel_rfl
theorem t127_2 (a b c : D) : roundT C tab127 127 (loopOf C.P 127 2) l127_2 [a, b, c] =
 T.ite (decide (c.I < b.I)) (T.need (decide ((0 : Int) ≤ c.I ∧ c.I < (a.L.length : Int))) (T.ite (!legP (D.I (List.getD (List.getD a.L c.I.toNat []) 0 default)) (D.I (List.getD (List.getD a.L c.I.toNat []) (0 + 1) default)) (D.I (List.getD (List.getD a.L c.I.toNat []) (0 + 1 + 1) default))) (T.leaf (Rd.out Ex.ret [D.i c.I])) (T.leaf (Rd.again [D.l a.L, D.i b.I, D.i (IntKind.i64.wrap (c.I + (1 : Int)))])))) (T.leaf (Rd.out (Ex.exit 0) [])) := by kernel_rfl
theorem t94 (a : D) : fnT C tab94 94 s94 [a] =
 T.need (yes (a.L.length < big)) (T.leaf [D.b (decide (firstFrom (fun j => !legAt a.L j) 0 a.L.length ≥ (0 : Int)))]) := by kernel_rfl
theorem t47 (a b c d : D) : fnT C tab47 47 s47 [a, b, c, d] =
 T.ite (!within a.I (1 : Int) (1000000 : Int)) (T.leaf [D.b false]) (T.ite (!within b.I (0 : Int) a.I) (T.leaf [D.b false]) (T.ite (!within c.I (0 : Int) a.I) (T.leaf [D.b false]) (T.ite (decide ((d.L.length : Int) > (50 : Int))) (T.leaf [D.b false]) (T.need (yes (d.L.length < big)) (T.leaf [D.b !!allFrom (legAt d.L) 0 d.L.length]))))) := by kernel_rfl
theorem t48 (a b c d e : D) : fnT C tab48 48 s48 [a, b, c, d, e] =
 T.need (yes (tankPre a.I b.I d.L e.L ∧ allFrom (amOk d.L e.L) 0 d.L.length = true ∧ bounds a.I c.I c.I ∧ (d.L.length : Int) = (d.L.length : Int) ∧ (0 : Int) ≤ (0 : Int) ∧ (0 : Int) ≤ (d.L.length : Int))) (T.ite (safeFrom a.I b.I d.L e.L (Int.toNat (0 : Int)) (d.L.length - Int.toNat (0 : Int)) c.I c.I) (T.leaf [D.b true]) (T.leaf [D.b false])) := by kernel_rfl
theorem t48_3 (a b c d e f g h : D) : roundT C tab48 48 (loopOf C.P 48 3) l48_3 [a, b, c, d, e, f, g, h] =
 T.ite (decide (h.I < g.I)) (T.need (decide ((0 : Int) ≤ h.I ∧ h.I < (f.L.length : Int))) (T.need (decide ((0 : Int) ≤ h.I ∧ h.I < (c.L.length : Int))) (T.need (decide ((0 : Int) ≤ h.I ∧ h.I < (c.L.length : Int))) (T.ite (decide (IntKind.i64.wrap (e.I + D.I (List.getD (List.getD c.L h.I.toNat []) 0 default)) > a.I)) (T.leaf (Rd.out Ex.ret [D.b false])) (T.ite (decide (IntKind.i64.wrap (IntKind.i64.wrap (d.I + D.I (List.getD (List.getD c.L h.I.toNat []) 0 default)) - D.I (List.getD (List.getD f.L h.I.toNat []) (0 + 1) default)) < b.I)) (T.leaf (Rd.out Ex.ret [D.b false])) (T.leaf (Rd.again [D.i a.I, D.i b.I, D.l c.L, D.i (IntKind.i64.wrap (IntKind.i64.wrap (d.I + D.I (List.getD (List.getD c.L h.I.toNat []) 0 default)) - D.I (List.getD (List.getD f.L h.I.toNat []) (0 + 1) default))), D.i (IntKind.i64.wrap (IntKind.i64.wrap (e.I + D.I (List.getD (List.getD c.L h.I.toNat []) 0 default)) - D.I (List.getD (List.getD f.L h.I.toNat []) 0 default))), D.l f.L, D.i g.I, D.i (IntKind.i64.wrap (h.I + (1 : Int)))]))))))) (T.leaf (Rd.out (Ex.exit 0) [])) := by kernel_rfl
theorem t14 (a b c d : D) : fnT C tab14 14 s14 [a, b, c, d] =
 T.need (yes (d.L.length < big)) (T.ite (!tankOk a.I b.I c.I d.L) (T.leaf [D.i 0, D.i 2]) (T.need (decide ((0 : Int) ≤ (d.L.length : Int) ∧ (d.L.length : Int) = (d.L.length : Int) ∧ (d.L.length : Int) ≤ (2 : Int) ^ 40 ∧ (↑Try.prog.types[3].bytes : Int) * (d.L.length : Int) ≤ (2 : Int) ^ 46)) (T.need (yes (tankP a.I b.I c.I d.L ∧ (d.L.length : Int) = (d.L.length : Int) ∧ (↑(List.length (List.replicate (Int.toNat (d.L.length : Int)) [D.i 0])) : Int) = (d.L.length : Int) ∧ d.L = d.L ∧ (d.L.length : Int) = (d.L.length : Int) ∧ (0 : Int) ≤ (0 : Int) ∧ (0 : Int) ≤ (d.L.length : Int) ∧ IntKind.i64.wrap (b.I - c.I) = needAt d.L b.I c.I (Int.toNat (0 : Int)) ∧ (0 : Int) = upAt d.L b.I c.I (Int.toNat (0 : Int)) ∧ List.replicate (Int.toNat (d.L.length : Int)) [D.i 0] = upTo d.L b.I c.I (Int.toNat (0 : Int)))) (T.need (yes (tankP a.I b.I c.I d.L ∧ (d.L.length : Int) = (d.L.length : Int) ∧ (↑(Int.toNat (d.L.length : Int)) : Int) = (d.L.length : Int) ∧ (-2 : Int) ≤ IntKind.i64.wrap ((d.L.length : Int) - (2 : Int)) ∧ IntKind.i64.wrap ((d.L.length : Int) - (2 : Int)) ≤ (d.L.length : Int) - (2 : Int) ∧ upTo d.L b.I c.I d.L.length = downTo d.L b.I c.I (IntKind.i64.wrap ((d.L.length : Int) - (2 : Int))))) (T.need (decide ((0 : Int) ≤ (d.L.length : Int) ∧ (d.L.length : Int) = (d.L.length : Int) ∧ (d.L.length : Int) ≤ (2 : Int) ^ 40 ∧ (↑Try.prog.types[3].bytes : Int) * (d.L.length : Int) ≤ (2 : Int) ^ 46)) (T.need (yes (tankP a.I b.I c.I d.L ∧ (↑(List.length (List.replicate (Int.toNat (d.L.length : Int)) [D.i 0])) : Int) = (d.L.length : Int) ∧ (↑(Int.toNat (d.L.length : Int)) : Int) = (d.L.length : Int) ∧ (↑(Int.toNat (d.L.length : Int)) : Int) = (d.L.length : Int) ∧ (0 : Int) ≤ (0 : Int) ∧ (0 : Int) ≤ (d.L.length : Int) ∧ (0 : Int) = beforeAt d.L b.I c.I (Int.toNat (0 : Int)) ∧ List.replicate (Int.toNat (d.L.length : Int)) [D.i 0] = outTo d.L b.I c.I (Int.toNat (0 : Int)) ∧ sums d.L b.I c.I = sums d.L b.I c.I)) (T.ite (allFrom (outOk d.L b.I c.I) (Int.toNat (0 : Int)) (d.L.length - Int.toNat (0 : Int))) (T.need (decide (Int.toNat (d.L.length : Int) ≤ List.length (outs d.L b.I c.I))) (T.need (yes (tankPre a.I b.I d.L (List.take (Int.toNat (d.L.length : Int)) (outs d.L b.I c.I)) ∧ allFrom (amOk d.L (List.take (Int.toNat (d.L.length : Int)) (outs d.L b.I c.I))) 0 d.L.length = true ∧ bounds a.I c.I c.I)) (T.ite (!safeFrom a.I b.I d.L (List.take (Int.toNat (d.L.length : Int)) (outs d.L b.I c.I)) 0 d.L.length c.I c.I) (T.leaf [D.i 0, D.i 5]) (T.leaf [D.i 1, D.i (↑(Int.toNat (d.L.length : Int)) : Int), D.i 0, D.l (outs d.L b.I c.I)])))) (T.leaf [D.i 0, D.i 5])))))))) := by kernel_rfl
theorem t14_8 (a b c d e f g h i j k l : D) : roundT C tab14 14 (loopOf C.P 14 8) l14_8 [a, b, c, d, e, f, g, h, i, j, k, l] =
 T.ite (decide (k.I < j.I)) (T.need (decide ((0 : Int) ≤ k.I ∧ k.I < (i.L.length : Int))) (T.need (decide ((0 : Int) ≤ k.I ∧ k.I < (f.I.toNat : Int))) (T.need (decide (k.I.toNat < l.L.length)) (T.leaf (Rd.again [D.i a.I, D.i b.I, D.i c.I, D.l d.L, D.i e.I, D.i (f.I.toNat : Int), D.i (IntKind.i64.wrap (g.I + D.I (List.getD (List.getD i.L k.I.toNat []) (0 + 1) default))), D.i (maxI h.I (IntKind.i64.wrap (g.I + D.I (List.getD (List.getD i.L k.I.toNat []) (0 + 1) default)))), D.l i.L, D.i j.I, D.i (IntKind.i64.wrap (k.I + (1 : Int))), D.l (List.set l.L k.I.toNat (updC (List.getD l.L k.I.toNat []) [D.i (maxI h.I (IntKind.i64.wrap (g.I + D.I (List.getD (List.getD i.L k.I.toNat []) (0 + 1) default))))] 0 0 (List.length [K.int IntKind.i64])))]))))) (T.leaf (Rd.out (Ex.exit 0) [D.i a.I, D.i b.I, D.i c.I, D.l d.L, D.i e.I, D.i (f.I.toNat : Int), D.l l.L])) := by kernel_rfl
theorem t14_15 (a b c d e f g h : D) : roundT C tab14 14 (loopOf C.P 14 15) l14_15 [a, b, c, d, e, f, g, h] =
 T.ite (decide (g.I ≥ (0 : Int))) (T.need (decide ((0 : Int) ≤ g.I ∧ g.I < (f.I.toNat : Int))) (T.need (decide (g.I.toNat < h.L.length)) (T.need (decide ((0 : Int) ≤ IntKind.i64.wrap (g.I + (1 : Int)) ∧ IntKind.i64.wrap (g.I + (1 : Int)) < (f.I.toNat : Int))) (T.need (decide (Int.toNat (IntKind.i64.wrap (g.I + (1 : Int))) < h.L.length)) (T.need (decide ((0 : Int) ≤ IntKind.i64.wrap (g.I + (1 : Int)) ∧ IntKind.i64.wrap (g.I + (1 : Int)) < (d.L.length : Int))) (T.need (decide ((0 : Int) ≤ g.I ∧ g.I < (f.I.toNat : Int))) (T.need (decide (g.I.toNat < h.L.length)) (T.leaf (Rd.again [D.i a.I, D.i b.I, D.i c.I, D.l d.L, D.i e.I, D.i (f.I.toNat : Int), D.i (IntKind.i64.wrap (g.I - (1 : Int))), D.l (List.set h.L g.I.toNat (updC (List.getD h.L g.I.toNat []) [D.i (maxI (D.I (List.getD (List.getD h.L g.I.toNat []) 0 default)) (IntKind.i64.wrap (D.I (List.getD (List.getD h.L (Int.toNat (IntKind.i64.wrap (g.I + (1 : Int)))) []) 0 default) - D.I (List.getD (List.getD d.L (Int.toNat (IntKind.i64.wrap (g.I + (1 : Int)))) []) (0 + 1 + 1) default))))] 0 0 (List.length [K.int IntKind.i64])))]))))))))) (T.leaf (Rd.out (Ex.exit 2) [D.i a.I, D.i b.I, D.i c.I, D.l d.L, D.i e.I, D.i (f.I.toNat : Int), D.l h.L])) := by kernel_rfl
theorem t14_21 (a b c d e f g h i j k : D) : roundT C tab14 14 (loopOf C.P 14 21) l14_21 [a, b, c, d, e, f, g, h, i, j, k] =
 T.ite (decide (i.I < h.I)) (T.need (decide ((0 : Int) ≤ i.I ∧ i.I < (g.I.toNat : Int))) (T.need (decide (i.I.toNat < k.L.length)) (T.need (decide ((0 : Int) ≤ i.I ∧ i.I < (e.I.toNat : Int))) (T.need (decide (i.I.toNat < j.L.length)) (T.need (decide ((0 : Int) ≤ i.I ∧ i.I < (e.I.toNat : Int))) (T.need (decide (i.I.toNat < List.length (List.set j.L i.I.toNat (updC (List.getD j.L i.I.toNat []) [D.i (IntKind.i64.wrap (D.I (List.getD (List.getD k.L i.I.toNat []) 0 default) - f.I))] 0 0 (List.length [K.int IntKind.i64]))))) (T.need (decide ((0 : Int) ≤ i.I ∧ i.I < (d.L.length : Int))) (T.ite (decide (D.I (List.getD (List.getD (List.set j.L i.I.toNat (updC (List.getD j.L i.I.toNat []) [D.i (IntKind.i64.wrap (D.I (List.getD (List.getD k.L i.I.toNat []) 0 default) - f.I))] 0 0 (List.length [K.int IntKind.i64]))) i.I.toNat []) 0 default) > D.I (List.getD (List.getD d.L i.I.toNat []) (0 + 1 + 1) default))) (T.leaf (Rd.out Ex.ret [D.i 5])) (T.leaf (Rd.again [D.i a.I, D.i b.I, D.i c.I, D.l d.L, D.i (e.I.toNat : Int), D.i (D.I (List.getD (List.getD k.L i.I.toNat []) 0 default)), D.i (g.I.toNat : Int), D.i h.I, D.i (IntKind.i64.wrap (i.I + (1 : Int))), D.l (List.set j.L i.I.toNat (updC (List.getD j.L i.I.toNat []) [D.i (IntKind.i64.wrap (D.I (List.getD (List.getD k.L i.I.toNat []) 0 default) - f.I))] 0 0 (List.length [K.int IntKind.i64]))), D.l k.L])))))))))) (T.leaf (Rd.out (Ex.exit 4) [D.i a.I, D.i b.I, D.i c.I, D.l d.L, D.i (e.I.toNat : Int), D.l j.L])) := by kernel_rfl
theorem ok95 (n : Nat) : FnOK C (n + 2) 95 (mkF s95 G95) := by
 refine fn_of hC (sp := sp95) (lp := lp95) ⟨ok64 n, trivial⟩ (by kernel_rfl) [] (by kernel_rfl) rfl (fun k hk => by cases hk) fun ds r h => ?_
 unfold G95 at h
 split at h
 ·rename_i a b c
  rw [← h]
  refine (congrArg T.run (t95 a b c)).trans ?_
  simp only [run_ite, run_leaf, legP]
  grind
 ·cases h
theorem ok127_2 (n : Nat) : LoopSim C (n + 2) 127 (loopOf C.P 127 2) (mkL l127_2 G127_2) := by
 refine loop_of hC (sp := sp127) (lp := lp127) ⟨ok95 n, trivial⟩ [] (by kernel_rfl) rfl (fun k hk => by cases hk) (by kernel_rfl) (fun ds => ((ds.getD 1 default).I - (ds.getD 2 default).I).toNat) fun ds r h => ?_
 unfold G127_2 at h
 split at h
 ·rename_i l m i
  obtain ⟨hp, h⟩ := need_some h
  rw [yes_iff] at hp
  obtain ⟨h1, h2, h3, h4⟩ := hp
  have hb : big = 4611686018427387904 := rfl
  refine ⟨by rw [fuelC]; simp; omega, ?_⟩
  rw [show roundT C (mkTab sp127 lp127) 127 (loopOf C.P 127 2) l127_2 [l, m, i] = _ from t127_2 l m i]
  obtain ⟨k, hk⟩ : ∃ k : Nat, i.I = k := ⟨i.I.toNat, by omega⟩
  simp only [run_ite, run_need, run_leaf, hk, h2, Int.toNat_natCast] at h h4 ⊢
  refine first_loop (p := fun j => !legAt l.L j) (i := k) (len := l.L.length) [D.l l.L, D.i l.L.length, D.i (k + 1 : Nat)] h ?_ ?_
  ·simp only [wrap_succ (show k < 9223372036854775807 by omega), ix_def, Nat.zero_add, legAt, legOk]
   grind
  ·intro hlt hp hh
   refine ⟨Eq.trans (need_yes (p := _) (t := _) ?_) hh, ?_⟩
   ·simp only [I_i, L_l]
    exact ⟨h1, trivial, by omega, by omega⟩
   ·show ((l.L.length : Int) - ((k + 1 : Nat) : Int)).toNat < (m.I - i.I).toNat
    omega
 ·cases h
theorem ok127 (n : Nat) : FnOK C (n + 3) 127 (mkF s127 G127) := by
 refine fn_of hC (sp := sp127) (lp := lp127) ⟨ok95 n, trivial⟩ (by kernel_rfl) [2] (by kernel_rfl) (by kernel_rfl) (fun k hk L hL => by simp at hk; subst hk; cases hL; exact ok127_2 n) fun ds r h => ?_
 unfold G127 at h
 split at h
 ·rename_i l
  obtain ⟨hp, h⟩ := need_some h
  rw [yes_iff] at hp
  rw [← h]
  refine (congrArg T.run (t127 l)).trans ?_
  refine (need_yes ⟨hp, by omega, by omega, by omega⟩).trans ?_
  simp only [run_ite, run_leaf, Int.toNat_zero, Nat.sub_zero]
  split
  ·rfl
  ·rename_i hc
   have : ¬ firstFrom (fun j => !legAt l.L j) 0 l.L.length ≥ 0 := fun hh => hc (decide_eq_true hh)
   rw [firstFrom_neg (by omega)]
 ·cases h
theorem ok94 (n : Nat) : FnOK C (n + 4) 94 (mkF s94 G94) := by
 refine fn_of hC (sp := sp94) (lp := lp94) ⟨ok127 n, ok95 (n + 1), trivial⟩ (by kernel_rfl) [] (by kernel_rfl) rfl (fun k hk => by cases hk) fun ds r h => ?_
 unfold G94 at h
 split at h
 ·rename_i l
  rw [← h]
  refine (congrArg T.run (t94 l)).trans ?_
  rw [firstFrom_all]
  simp only [Bool.not_not]
 ·cases h
theorem ok47 (n : Nat) : FnOK C (n + 5) 47 (mkF s47 G47) := by
 refine fn_of hC (sp := sp47) (lp := lp47) ⟨ok64 (n + 3), ok94 n, trivial⟩ (by kernel_rfl) [] (by kernel_rfl) rfl (fun k hk => by cases hk) fun ds r h => ?_
 unfold G47 at h
 split at h
 ·rename_i t r s l
  obtain ⟨hp, h⟩ := need_some h
  rw [yes_iff] at hp
  rw [← h]
  refine (congrArg T.run (t47 t r s l)).trans ?_
  simp only [run_ite, run_need, run_leaf, tankOk, yes_true hp, if_true]
  grind
 ·cases h
theorem ok48_3 (n : Nat) : LoopSim C n 48 (loopOf C.P 48 3) (mkL l48_3 G48_3) := by
 refine loop_of hC (sp := sp48) (lp := lp48) trivial [] (by kernel_rfl) rfl (fun k hk => by cases hk) (by kernel_rfl) (fun ds => ((ds.getD 6 default).I - (ds.getD 7 default).I).toNat) fun ds r h => ?_
 unfold G48_3 at h
 split at h
 ·rename_i t r0 am lo hi l m i
  obtain ⟨hp, h⟩ := need_some h
  rw [yes_iff] at hp
  obtain ⟨⟨h11, h12, h13, h14, h15⟩, h2, ⟨h31, h32, h33⟩, h4, h5, h6⟩ := hp
  have hb : big = 4611686018427387904 := rfl
  refine ⟨by rw [fuelC]; simp; omega, ?_⟩
  rw [show roundT C (mkTab sp48 lp48) 48 (loopOf C.P 48 3) l48_3 [t, r0, am, lo, hi, l, m, i] = _ from t48_3 t r0 am lo hi l m i]
  obtain ⟨k, hk⟩ : ∃ k : Nat, i.I = k := ⟨i.I.toNat, by omega⟩
  simp only [run_ite, run_need, run_leaf, hk, h4, Int.toNat_natCast] at h h6 ⊢
  by_cases hlt : k < l.L.length
  ·have hl := allFrom_iff.1 h15 k (Nat.zero_le _) (by omega)
   have ha := allFrom_iff.1 h2 k (Nat.zero_le _) (by omega)
   simp only [amOk, Lite.within_iff] at ha
   simp only [legAt, legOk, legP, Bool.and_eq_true, Lite.within_iff, decide_eq_true_eq] at hl
   obtain ⟨m', hm⟩ : ∃ m', l.L.length - k = m' + 1 := ⟨l.L.length - k - 1, by omega⟩
   have hm' : l.L.length - (k + 1) = m' := by omega
   have d1 : decide ((0 : Int) ≤ (k : Int) ∧ (k : Int) < (l.L.length : Int)) = true := decide_eq_true ⟨by omega, by omega⟩
   have d2 : decide ((0 : Int) ≤ (k : Int) ∧ (k : Int) < (am.L.length : Int)) = true := decide_eq_true ⟨by omega, by omega⟩
   have d0 : decide ((k : Int) < (l.L.length : Int)) = true := decide_eq_true (by omega)
   simp only [hm, safeFrom] at h
   simp only [d0, d1, d2, if_true, ix_def, Nat.zero_add, wrap_succ (show k < 9223372036854775807 by omega)]
   simp only [wrap_id (x := hi.I + ix (am.L.getD k []) 0) (by omega) (by omega), wrap_id (x := lo.I + ix (am.L.getD k []) 0) (by omega) (by omega), wrap_id (x := lo.I + ix (am.L.getD k []) 0 - ix (l.L.getD k []) 1) (by omega) (by omega), wrap_id (x := hi.I + ix (am.L.getD k []) 0 - ix (l.L.getD k []) 0) (by omega) (by omega)]
   by_cases c1 : hi.I + ix (am.L.getD k []) 0 > t.I
   ·simp only [c1, if_true, Bool.false_eq_true, if_false, Option.some.injEq] at h
    simp only [c1, decide_true, if_true]
    subst h
    exact out_ok rfl
   ·by_cases c2 : lo.I + ix (am.L.getD k []) 0 - ix (l.L.getD k []) 1 < r0.I
    ·simp only [c1, c2, if_true, Bool.false_eq_true, if_false, Option.some.injEq] at h
     simp only [c1, c2, decide_true, decide_false, if_true, Bool.false_eq_true, if_false]
     subst h
     exact out_ok rfl
    ·simp only [c1, c2, decide_false, Bool.false_eq_true, if_false] at h ⊢
     refine again_ok rfl ?_ ?_
     ·refine (need_yes ⟨⟨h11, h12, h13, h14, h15⟩, h2, ⟨by simp only [I_i]; omega, by simp only [I_i]; omega, by simp only [I_i]; omega⟩, by simp only [I_i, L_l], by simp only [I_i]; omega, by simp only [I_i]; omega⟩).trans ?_
      simp only [I_i, L_l, Int.toNat_natCast, hm', run_ite, run_leaf]
      exact h
     ·show ((l.L.length : Int) - ((k + 1 : Nat) : Int)).toNat < (m.I - i.I).toNat
      omega
  ·rw [show l.L.length - k = 0 by omega] at h
   simp only [safeFrom, if_true, Option.some.injEq] at h
   subst h
   rw [if_neg (by simpa using hlt)]
   exact out_ok rfl
 ·cases h
theorem ok48 (n : Nat) : FnOK C (n + 1) 48 (mkF s48 G48) := by
 refine fn_of hC (sp := sp48) (lp := lp48) trivial (by kernel_rfl) [3] (by kernel_rfl) (by kernel_rfl) (fun k hk L hL => by simp at hk; subst hk; cases hL; exact ok48_3 n) fun ds r h => ?_
 unfold G48 at h
 split at h
 ·rename_i t r0 s l am
  obtain ⟨hp, h⟩ := need_some h
  rw [yes_iff] at hp
  rw [← h]
  refine (congrArg T.run (t48 t r0 s l am)).trans ?_
  refine (need_yes ⟨hp.1, hp.2.1, hp.2.2, rfl, by omega, by omega⟩).trans ?_
  simp only [run_ite, run_leaf, Int.toNat_zero, Nat.sub_zero]
  split <;> rename_i hc <;> simp [hc]
 ·cases h
theorem len_tabI (n : Nat) (f : Nat → Int) : (tabI n f).length = n := by simp [tabI, mkI]
theorem tabI_congr {n : Nat} {f g : Nat → Int} (h : ∀ j, j < n → f j = g j) : tabI n f = tabI n g := by
 unfold tabI
 congr 1
 exact List.map_congr_left fun j hj => h j (List.mem_range.1 hj)
theorem tabI_get {n : Nat} {f : Nat → Int} {j : Nat} (h : j < n) : (tabI n f).getD j [] = [.i (f j)] := by
 simp [tabI, mkI, List.getD_eq_getElem?_getD, h]
theorem tabI_set {n : Nat} {f : Nat → Int} {i : Nat} {v : Int} : (tabI n f).set i [.i v] = tabI n fun j => if j = i then v else f j := by
 apply List.ext_getElem?
 intro j
 simp only [tabI, mkI, List.map_map, List.getElem?_set, List.getElem?_map, List.length_map, List.length_range]
 by_cases hij : i = j
 ·subst hij
  by_cases hi : i < n
  ·simp [hi]
  ·simp [hi]
 ·by_cases hj : j < n
  ·simp [hj, hij, show ¬ j = i from fun h => hij h.symm]
  ·simp [hj, hij]
theorem tabI_zero (n : Nat) : List.replicate n [D.i 0] = tabI n fun _ => 0 := by
 simp [tabI, mkI, List.map_const']
theorem tank_of {t r s : Int} {l : List (List D)} (h : tankP t r s l) : (1 ≤ t ∧ t ≤ 1000000) ∧ (0 ≤ r ∧ r ≤ t) ∧ (0 ≤ s ∧ s ≤ t) ∧ l.length ≤ 50 ∧ ∀ j, j < l.length → (0 ≤ leastOf l j ∧ leastOf l j ≤ mostOf l j) ∧ mostOf l j ≤ 1000000 ∧ (0 ≤ fillOf l j ∧ fillOf l j ≤ 1000000) := by
 simp only [tankP, tankOk, Bool.and_eq_true, Lite.within_iff, decide_eq_true_eq, allFrom_iff, legAt, legOk, legP] at h
 obtain ⟨⟨⟨⟨h1, h2⟩, h3⟩, h4⟩, h5⟩ := h
 refine ⟨h1, h2, h3, h4, fun j hj => ?_⟩
 have := h5 j (Nat.zero_le _) (by omega)
 exact ⟨this.1.1, this.1.2, this.2⟩
section
variable {t r s : Int} {l : List (List D)} (h : tankP t r s l)
include h
theorem need_rng : ∀ j, j ≤ l.length → -1000000 ≤ needAt l r s j ∧ needAt l r s j ≤ 1000000 * (j + 1)
 | 0, _ => by
   obtain ⟨h1, h2, h3, h4, h5⟩ := tank_of h
   simp only [needAt]; omega
 | j + 1, hj => by
   obtain ⟨h1, h2, h3, h4, h5⟩ := tank_of h
   have := need_rng j (by omega)
   have := h5 j (by omega)
   simp only [needAt]; omega
theorem up_rng : ∀ j, j ≤ l.length → 0 ≤ upAt l r s j ∧ upAt l r s j ≤ 1000000 * (j + 1)
 | 0, _ => by simp only [upAt]; omega
 | j + 1, hj => by
   have h1 := up_rng j (by omega)
   have h2 := need_rng h (j + 1) hj
   simp only [upAt]; omega
omit h in
theorem up_mono {j : Nat} : upAt l r s j ≤ upAt l r s (j + 1) := by simp only [upAt]; omega
theorem down_rng : ∀ k j, j + k < l.length → upAt l r s (j + 1) ≤ downAt l r s k j ∧ downAt l r s k j ≤ 1000000 * 51
 | 0, j, hj => by
   have h1 := up_rng h (j + 1) (by omega)
   have h2 := (tank_of h).2.2.2.1
   simp only [downAt]; omega
 | k + 1, j, hj => by
   have h1 := up_rng h (j + 1) (by omega)
   have h2 := (tank_of h).2.2.2.1
   have h3 := down_rng k (j + 1) (by omega)
   have h4 := ((tank_of h).2.2.2.2 (j + 1) (by omega)).2.2
   simp only [downAt]; omega
theorem sum_rng {j : Nat} (hj : j < l.length) : upAt l r s (j + 1) ≤ sumAt l r s j ∧ 0 ≤ sumAt l r s j ∧ sumAt l r s j ≤ 51000000 := by
 have h1 := down_rng h (l.length - 1 - j) j (by omega)
 have h2 := up_rng h (j + 1) (by omega)
 unfold sumAt
 omega
omit h in
theorem sum_step {j : Nat} (hj : j + 1 < l.length) : sumAt l r s j = max (upAt l r s (j + 1)) (sumAt l r s (j + 1) - fillOf l (j + 1)) := by
 unfold sumAt
 rw [show l.length - 1 - j = (l.length - 1 - (j + 1)) + 1 by omega]
 rfl
theorem sum_mono {j : Nat} (hj : j + 1 < l.length) : sumAt l r s j ≤ sumAt l r s (j + 1) ∧ sumAt l r s (j + 1) - sumAt l r s j ≤ fillOf l (j + 1) := by
 have h1 := sum_step (r := r) (s := s) hj
 have h2 := (sum_rng h hj).1
 have h3 := up_mono (l := l) (r := r) (s := s) (j := j + 1)
 have h4 := ((tank_of h).2.2.2.2 (j + 1) hj).2.2
 omega
end
set_option maxRecDepth 100000 in
theorem max_if (a b : Int) : maxI a b = max a b := by
 unfold maxI
 rw [Int.max_def]
 by_cases h : b > a
 ·rw [if_pos h, if_pos (by omega)]
 ·rw [if_neg h]
  by_cases h2 : a ≤ b
  ·rw [if_pos h2]; omega
  ·rw [if_neg h2]
theorem ok14_8 (n : Nat) : LoopSim C (n + 5) 14 (loopOf C.P 14 8) (mkL l14_8 G14_8) := by
 refine loop_of hC (sp := sp14) (lp := lp14) ⟨ok47 n, ok48 (n + 4), trivial⟩ [] (by kernel_rfl) rfl (fun k hk => by cases hk) (by kernel_rfl) (fun ds => ((ds.getD 9 default).I - (ds.getD 10 default).I).toNat) fun ds rr h => ?_
 unfold G14_8 at h
 split at h
 ·rename_i t r s l m m' need most l' n' i row
  obtain ⟨hp, h⟩ := need_some h
  rw [yes_iff] at hp
  obtain ⟨h1, h2, h3, h4, h5, h6, h7, h8, h9, h10⟩ := hp
  have hlen := (tank_of h1).2.2.2.1
  refine ⟨by rw [fuelC]; simp; omega, ?_⟩
  rw [show roundT C (mkTab sp14 lp14) 14 (loopOf C.P 14 8) l14_8 [t, r, s, l, m, m', need, most, l', n', i, row] = _ from t14_8 t r s l m m' need most l' n' i row]
  obtain ⟨k, hk⟩ : ∃ k : Nat, i.I = k := ⟨i.I.toNat, by omega⟩
  simp only [hk, h2, h3, h4, h5, h8, h9, h10, Int.toNat_natCast, upd1, ix_def, Nat.zero_add] at h ⊢
  refine rd_if (fun hlt => ?_) fun hlt => ?_
  ·have hkl : k < l.L.length := by omega
   have hn := need_rng h1 k (by omega)
   have hn' := need_rng h1 (k + 1) (by omega)
   have e1 : needAt l.L r.I s.I (k + 1) = needAt l.L r.I s.I k + ix (l.L.getD k []) 1 := rfl
   refine rd_dec ⟨by omega, by omega⟩ (rd_dec ⟨by omega, by omega⟩ (rd_dec (by simp only [upTo, len_tabI]; omega) (rd_again ?_ ?_)))
   ·have w1 : IntKind.i64.wrap (needAt l.L r.I s.I k + ix (l.L.getD k []) 1) = needAt l.L r.I s.I (k + 1) := by rw [e1]; exact wrap_id (by omega) (by omega)
    rw [w1, max_if, wrap_succ (by omega)]
    refine (need_yes ⟨h1, rfl, rfl, rfl, rfl, by simp only [I_i]; omega, by simp only [I_i, L_l]; omega, rfl, rfl, ?_⟩).trans h
    simp only [L_l, I_i, Int.toNat_natCast, upTo, tabI_set]
    refine tabI_congr fun j hj => ?_
    by_cases hjk : j = k
    ·subst hjk; simp [upAt]
    ·rw [if_neg hjk]
     by_cases hlt2 : j < k
     ·rw [if_pos hlt2]; exact (if_pos (show j < k + 1 by omega)).symm
     ·rw [if_neg hlt2]; exact (if_neg (show ¬ j < k + 1 by omega)).symm
   ·show ((l.L.length : Int) - ((IntKind.i64.wrap ((k : Int) + 1)))).toNat < (n'.I - i.I).toNat
    rw [wrap_succ (by omega)]
    omega
  ·have hkl : k = l.L.length := by omega
   subst hkl
   exact rd_out h
 ·cases h
theorem ok14_15 (n : Nat) : LoopSim C (n + 5) 14 (loopOf C.P 14 15) (mkL l14_15 G14_15) := by
 refine loop_of hC (sp := sp14) (lp := lp14) ⟨ok47 n, ok48 (n + 4), trivial⟩ [] (by kernel_rfl) rfl (fun k hk => by cases hk) (by kernel_rfl) (fun ds => ((ds.getD 6 default).I + 3).toNat) fun ds rr h => ?_
 unfold G14_15 at h
 split at h
 ·rename_i t r s l m m' i row
  obtain ⟨hp, h⟩ := need_some h
  rw [yes_iff] at hp
  obtain ⟨h1, h2, h3, h4, h5, h6⟩ := hp
  have hlen := (tank_of h1).2.2.2.1
  refine ⟨by rw [fuelC]; simp; omega, ?_⟩
  rw [show roundT C (mkTab sp14 lp14) 14 (loopOf C.P 14 15) l14_15 [t, r, s, l, m, m', i, row] = _ from t14_15 t r s l m m' i row]
  simp only [h2, h3, h6, Int.toNat_natCast, upd1, ix_def, Nat.zero_add, Nat.reduceAdd] at h ⊢
  have e0 : (downTo l.L r.I s.I i.I).length = l.L.length := len_tabI _ _
  refine rd_if (fun hge => ?_) fun hge => ?_
  ·obtain ⟨k, hk⟩ : ∃ k : Nat, i.I = k := ⟨i.I.toNat, by omega⟩
   have hkl : k + 1 < l.L.length := by omega
   have w1 : IntKind.i64.wrap ((k : Int) + 1) = ((k + 1 : Nat) : Int) := wrap_succ (by omega)
   have w2 : IntKind.i64.wrap ((k : Int) - 1) = (k : Int) - 1 := wrap_id (by omega) (by omega)
   rw [hk] at e0 ⊢
   rw [w1, w2]
   simp only [Int.toNat_natCast]
   have g1 : ix ((downTo l.L r.I s.I k).getD (k + 1) []) 0 = sumAt l.L r.I s.I (k + 1) := by
    unfold downTo
    rw [tabI_get hkl]
    show (if (k : Int) < ((k + 1 : Nat) : Int) then _ else _) = _
    rw [if_pos (by omega)]
   have g2 : ix ((downTo l.L r.I s.I k).getD k []) 0 = upAt l.L r.I s.I (k + 1) := by
    unfold downTo
    rw [tabI_get (by omega)]
    show (if (k : Int) < (k : Int) then _ else _) = _
    rw [if_neg (by omega)]
   have hs1 := sum_rng h1 hkl
   have hf := ((tank_of h1).2.2.2.2 (k + 1) hkl).2.2
   have e1 := sum_step (r := r.I) (s := s.I) hkl
   have e2 : fillOf l.L (k + 1) = ix (l.L.getD (k + 1) []) 2 := rfl
   have w3 : IntKind.i64.wrap (sumAt l.L r.I s.I (k + 1) - ix (l.L.getD (k + 1) []) 2) = sumAt l.L r.I s.I (k + 1) - fillOf l.L (k + 1) := wrap_id (by show _ ≤ _ - fillOf l.L (k + 1); omega) (by show _ - fillOf l.L (k + 1) < _; omega)
   simp only [g1, g2, w3, max_if, ← e1]
   refine rd_dec ⟨by omega, by omega⟩ (rd_dec (by omega) (rd_dec ⟨by omega, by omega⟩ (rd_dec (by omega) (rd_dec ⟨by omega, by omega⟩ (rd_dec ⟨by omega, by omega⟩ (rd_dec (by omega) (rd_again ?_ ?_)))))))
   ·refine (need_yes ⟨h1, rfl, rfl, by simp only [I_i]; omega, by simp only [I_i, L_l]; omega, ?_⟩).trans h
    simp only [L_l, I_i, downTo, tabI_set]
    refine tabI_congr fun j hj => ?_
    by_cases hjk : j = k
    ·subst hjk
     rw [if_pos rfl]; exact (if_pos (show (j : Int) - 1 < (j : Int) by omega)).symm
    ·rw [if_neg hjk]
     by_cases hlt2 : (k : Int) < (j : Int)
     ·rw [if_pos hlt2]; exact (if_pos (show (k : Int) - 1 < (j : Int) by omega)).symm
     ·rw [if_neg hlt2]; exact (if_neg (show ¬ (k : Int) - 1 < (j : Int) by omega)).symm
   ·show (((k : Int) - 1) + 3).toNat < (i.I + 3).toNat
    omega
  ·refine rd_out ?_
   rw [← h]
   simp only [run_leaf]
   congr 5
   unfold downTo sums
   simp only [List.cons.injEq, D.l.injEq, and_true, true_and]
   refine tabI_congr fun j hj => ?_
   rw [if_pos (by omega)]
 ·cases h
theorem out_of {l : List (List D)} {r s : Int} {k : Nat} (hk : k < l.length) : sumAt l r s k - beforeAt l r s k = outAt l r s k := by
 cases k with
 | zero => simp [beforeAt, outAt]
 | succ k => simp [beforeAt, outAt]
theorem before_rng {t r s : Int} {l : List (List D)} (h : tankP t r s l) {k : Nat} (hk : k ≤ l.length) : 0 ≤ beforeAt l r s k ∧ beforeAt l r s k ≤ 51000000 := by
 cases k with
 | zero => simp [beforeAt]
 | succ k =>
   have := sum_rng h (j := k) (by omega)
   simp only [beforeAt]; omega
theorem ok14_21 (n : Nat) : LoopSim C (n + 5) 14 (loopOf C.P 14 21) (mkL l14_21 G14_21) := by
 refine loop_of hC (sp := sp14) (lp := lp14) ⟨ok47 n, ok48 (n + 4), trivial⟩ [] (by kernel_rfl) rfl (fun k hk => by cases hk) (by kernel_rfl) (fun ds => ((ds.getD 7 default).I - (ds.getD 8 default).I).toNat) fun ds rr h => ?_
 unfold G14_21 at h
 split at h
 ·rename_i t r s l m b m' n' i row row'
  obtain ⟨hp, h⟩ := need_some h
  rw [yes_iff] at hp
  obtain ⟨h1, h2, h3, h4, h5, h6, h7, h8, h9⟩ := hp
  have hlen := (tank_of h1).2.2.2.1
  refine ⟨by rw [fuelC]; simp; omega, ?_⟩
  rw [show roundT C (mkTab sp14 lp14) 14 (loopOf C.P 14 21) l14_21 [t, r, s, l, m, b, m', n', i, row, row'] = _ from t14_21 t r s l m b m' n' i row row']
  obtain ⟨k, hk⟩ : ∃ k : Nat, i.I = k := ⟨i.I.toNat, by omega⟩
  simp only [hk, h2, h3, h4, h7, h8, h9, Int.toNat_natCast, upd1, ix_def, Nat.zero_add, Nat.reduceAdd] at h ⊢
  have e0 : (outTo l.L r.I s.I k).length = l.L.length := len_tabI _ _
  have e3 : (sums l.L r.I s.I).length = l.L.length := len_tabI _ _
  refine rd_if (fun hlt => ?_) fun hlt => ?_
  ·have hkl : k < l.L.length := by omega
   have g1 : ix ((sums l.L r.I s.I).getD k []) 0 = sumAt l.L r.I s.I k := by
    unfold sums
    rw [tabI_get hkl]; rfl
   have hs1 := sum_rng h1 hkl
   have hb := before_rng h1 (k := k) (by omega)
   have w1 : IntKind.i64.wrap (sumAt l.L r.I s.I k - beforeAt l.L r.I s.I k) = outAt l.L r.I s.I k := by rw [← out_of hkl]; exact wrap_id (by omega) (by omega)
   simp only [g1, w1]
   have e4 : (outTo l.L r.I s.I k).set k [.i (outAt l.L r.I s.I k)] = outTo l.L r.I s.I (k + 1) := by
    unfold outTo
    rw [tabI_set]
    refine tabI_congr fun j hj => ?_
    by_cases hjk : j = k
    ·subst hjk; simp
    ·rw [if_neg hjk]
     by_cases hlt2 : j < k
     ·rw [if_pos hlt2, if_pos (show j < k + 1 by omega)]
     ·rw [if_neg hlt2, if_neg (show ¬ j < k + 1 by omega)]
   have e5 : (outTo l.L r.I s.I (k + 1)).length = l.L.length := len_tabI _ _
   have g2 : ix ((outTo l.L r.I s.I (k + 1)).getD k []) 0 = outAt l.L r.I s.I k := by
    unfold outTo
    rw [tabI_get hkl]
    show (if k < k + 1 then _ else _) = _
    rw [if_pos (by omega)]
   rw [e4, g2]
   have e6 : l.L.length - k = (l.L.length - (k + 1)) + 1 := by omega
   rw [e6] at h
   simp only [allFrom] at h
   refine rd_dec ⟨by omega, by omega⟩ (rd_dec (by omega) (rd_dec ⟨by omega, by omega⟩ (rd_dec (by omega) (rd_dec ⟨by omega, by omega⟩ (rd_dec (by omega) (rd_dec ⟨by omega, by omega⟩ (rd_if (fun hc => ?_) fun hc => ?_)))))))
   ·have : outOk l.L r.I s.I k = false := by
     unfold outOk
     exact decide_eq_false (by show ¬ _ ≤ ix (l.L.getD k []) 2; omega)
    rw [this, Bool.false_and] at h
    exact rd_out h
   ·have : outOk l.L r.I s.I k = true := by
     unfold outOk
     exact decide_eq_true (by show _ ≤ ix (l.L.getD k []) 2; omega)
    rw [this, Bool.true_and] at h
    refine rd_again ?_ ?_
    ·rw [wrap_succ (by omega)]
     exact (need_yes ⟨h1, rfl, rfl, rfl, by simp only [I_i]; omega, by simp only [I_i, L_l]; omega, rfl, rfl, rfl⟩).trans h
    ·show ((l.L.length : Int) - ((IntKind.i64.wrap ((k : Int) + 1)))).toNat < (n'.I - i.I).toNat
     rw [wrap_succ (by omega)]
     omega
  ·have hkl : k = l.L.length := by omega
   refine rd_out ?_
   rw [← h]
   subst hkl
   simp only [Nat.sub_self, allFrom, run_ite, run_leaf, if_true]
   congr 5
   simp only [List.cons.injEq, D.l.injEq, and_true, true_and]
   unfold outTo outs
   refine tabI_congr fun j hj => ?_
   rw [if_pos hj]
 ·cases h
theorem take_tabI {n : Nat} {f : Nat → Int} : (tabI n f).take n = tabI n f := List.take_of_length_le (by rw [len_tabI]; omega)
theorem out_nonneg {t r s : Int} {l : List (List D)} (h : tankP t r s l) {j : Nat} (hj : j < l.length) : 0 ≤ outAt l r s j := by
 cases j with
 | zero => exact (sum_rng h hj).2.1
 | succ j =>
   have := sum_mono h hj
   simp only [outAt]; omega
theorem upTo_zero {l : List (List D)} {r s : Int} : upTo l r s 0 = tabI l.length fun _ => 0 := tabI_congr fun j _ => by rw [if_neg (Nat.not_lt_zero j)]
theorem outTo_zero {l : List (List D)} {r s : Int} : outTo l r s 0 = tabI l.length fun _ => 0 := tabI_congr fun j _ => by rw [if_neg (Nat.not_lt_zero j)]
set_option maxRecDepth 100000 in
theorem ok14 (n : Nat) : FnOK C (n + 6) 14 (mkF s14 G14) := by
 refine fn_of hC (sp := sp14) (lp := lp14) ⟨ok47 n, ok48 (n + 4), trivial⟩ (by kernel_rfl) [8, 15, 21] (by kernel_rfl) (by kernel_rfl) (fun k hk L hL => by
  simp only [List.mem_cons, List.not_mem_nil, or_false] at hk
  rcases hk with rfl | rfl | rfl <;> cases hL
  ·exact ok14_8 n
  ·exact ok14_15 n
  ·exact ok14_21 n) fun ds rr h => ?_
 unfold G14 at h
 split at h
 ·rename_i t r s l
  obtain ⟨hp, h⟩ := need_some h
  rw [yes_iff] at hp
  refine (congrArg T.run (t14 t r s l)).trans ?_
  simp only [Int.toNat_natCast, Int.toNat_zero, tabI_zero, len_tabI, Nat.sub_zero]
  refine go_yes hp (go_not (fun hc => ?_) (fun hc => ?_))
  ·rw [run_ite, hc] at h
   exact h
  ·rw [run_ite, hc] at h
   have h : (T.ite (fuelOk t.I r.I s.I l.L) (T.leaf [D.i 1, D.i ↑l.L.length, D.i 0, D.l (outs l.L r.I s.I)]) (T.leaf [D.i 0, D.i 5])).run = some rr := h
   have ht : tankP t.I r.I s.I l.L := hc
   obtain ⟨h1, h2, h3, h4, h5⟩ := tank_of ht
   have w0 : IntKind.i64.wrap (r.I - s.I) = r.I - s.I := wrap_id (by omega) (by omega)
   have w1 : IntKind.i64.wrap ((l.L.length : Int) - 2) = (l.L.length : Int) - 2 := wrap_id (by omega) (by omega)
   rw [w0, w1]
   have e1 : upTo l.L r.I s.I l.L.length = downTo l.L r.I s.I ((l.L.length : Int) - 2) := by
    unfold upTo downTo
    refine tabI_congr fun j hj => ?_
    rw [if_pos hj]
    by_cases hj2 : (l.L.length : Int) - 2 < (j : Int)
    ·rw [if_pos hj2]
     unfold sumAt
     rw [show l.L.length - 1 - j = 0 by omega]
     rfl
    ·rw [if_neg hj2]
   have e2 : (outs l.L r.I s.I).length = l.L.length := len_tabI _ _
   have e3 : (outs l.L r.I s.I).take l.L.length = outs l.L r.I s.I := take_tabI
   rw [e3]
   refine go_dec ⟨by omega, by trivial, by omega, by rw [bytes3]; omega⟩ (go_yes ⟨ht, by trivial, by trivial, by trivial, by trivial, by omega, by omega, by trivial, by trivial, upTo_zero.symm⟩ (go_yes ⟨ht, by trivial, by trivial, by omega, by omega, e1⟩ (go_dec ⟨by omega, by trivial, by omega, by rw [bytes3]; omega⟩ (go_yes ⟨ht, by trivial, by trivial, by trivial, by omega, by omega, by trivial, outTo_zero.symm, by trivial⟩ ?_))))
   refine go_ite (fun ha => ?_) (fun ha => ?_)
   ·have hpre : tankPre t.I r.I l.L (outs l.L r.I s.I) := by
     simp only [tankP, tankOk, Bool.and_eq_true, decide_eq_true_eq] at ht
     exact ⟨by omega, by omega, e2, h4, ht.2⟩
    have ham : allFrom (amOk l.L (outs l.L r.I s.I)) 0 l.L.length = true := by
     rw [allFrom_iff] at ha ⊢
     intro j hj hj2
     have hjl : j < l.L.length := by omega
     have := ha j hj hj2
     simp only [outOk, decide_eq_true_eq] at this
     have g := tabI_get (f := outAt l.L r.I s.I) hjl
     unfold amOk outs
     rw [g, Lite.within_iff]
     exact ⟨out_nonneg hc hjl, this⟩
    refine go_dec (by omega) (go_yes ⟨hpre, ham, by unfold bounds; omega⟩ ?_)
    have hf : fuelOk t.I r.I s.I l.L = safeFrom t.I r.I l.L (outs l.L r.I s.I) 0 l.L.length s.I s.I := by
     unfold fuelOk; rw [ha, Bool.true_and]
    rw [hf] at h
    refine go_not (fun hs => ?_) (fun hs => ?_)
    ·rw [run_ite, hs] at h
     exact h
    ·rw [run_ite, hs] at h
     exact h
   ·have hf : fuelOk t.I r.I s.I l.L = false := by unfold fuelOk; rw [ha, Bool.false_and]
    rw [run_ite, hf] at h
    exact h
 ·cases h
def s10 : Sig := ⟨[], [(.k .bool, [])]⟩
def s3 : Sig := ⟨[.agg [.k (.ro [.int .i64, .int .i64, .int .i64, .int .i64, .int .i64]), .k (.ro [.int .i64, .int .i64]), .k (.ro [.int .i64, .int .i64, .int .i64])], .agg [.k (.int .i64), .k (.int .i64), .k (.ro [.int .i64, .int .i64, .int .i64]), .k (.ro [.int .i64])], .k (.ro [.int .i64]), .k (.ro [.int .i64]), .k (.ro [.int .i64]), .k (.int .i64), .k (.int .i64)], [(.k .bool, [])]⟩
def l3_5 : LSig := mkLS [2, 3, 4, 5, 6, 7, 8, 15, 16] [(220, [(2, .k (.ro [.int .i64])), (3, .k (.ro [.int .i64])), (4, .k (.ro [.int .i64])), (5, .k (.int .i64)), (6, .k (.int .i64)), (7, .ptr 0 3 0 0), (8, .ptr 1 4 0 0), (15, .sl 2 1), (16, .k (.int .i64))], [.box [.k (.ro [.int .i64, .int .i64, .int .i64, .int .i64, .int .i64]), .k (.ro [.int .i64, .int .i64]), .k (.ro [.int .i64, .int .i64, .int .i64])], .box [.k (.int .i64), .k (.int .i64), .k (.ro [.int .i64, .int .i64, .int .i64]), .k (.ro [.int .i64])], .row [.int .i64]])] [(.exit 0, [3, 4, 5, 6, 7, 8, 15], [(220, [(3, .k (.ro [.int .i64])), (4, .k (.ro [.int .i64])), (5, .k (.int .i64)), (6, .k (.int .i64)), (7, .ptr 0 3 0 0), (8, .ptr 1 4 0 0), (15, .sl 2 1)], [.box [.k (.ro [.int .i64, .int .i64, .int .i64, .int .i64, .int .i64]), .k (.ro [.int .i64, .int .i64]), .k (.ro [.int .i64, .int .i64, .int .i64])], .box [.k (.int .i64), .k (.int .i64), .k (.ro [.int .i64, .int .i64, .int .i64]), .k (.ro [.int .i64])], .row [.int .i64]])]), (.ret, [14], [(220, [(14, .k .bool)], [])])]
def l3_13 : LSig := mkLS [3, 4, 5, 6, 7, 8, 15, 17, 18] [(220, [(3, .k (.ro [.int .i64])), (4, .k (.ro [.int .i64])), (5, .k (.int .i64)), (6, .k (.int .i64)), (7, .ptr 0 3 0 0), (8, .ptr 1 4 0 0), (15, .sl 2 1), (17, .nils), (18, .k (.int .i64))], [.box [.k (.ro [.int .i64, .int .i64, .int .i64, .int .i64, .int .i64]), .k (.ro [.int .i64, .int .i64]), .k (.ro [.int .i64, .int .i64, .int .i64])], .box [.k (.int .i64), .k (.int .i64), .k (.ro [.int .i64, .int .i64, .int .i64]), .k (.ro [.int .i64])], .row [.int .i64]]), (220, [(3, .k (.ro [.int .i64])), (4, .k (.ro [.int .i64])), (5, .k (.int .i64)), (6, .k (.int .i64)), (7, .ptr 0 3 0 0), (8, .ptr 1 4 0 0), (15, .sl 2 1), (17, .sl 3 3), (18, .k (.int .i64))], [.box [.k (.ro [.int .i64, .int .i64, .int .i64, .int .i64, .int .i64]), .k (.ro [.int .i64, .int .i64]), .k (.ro [.int .i64, .int .i64, .int .i64])], .box [.k (.int .i64), .k (.int .i64), .k (.ro [.int .i64, .int .i64, .int .i64]), .k (.ro [.int .i64])], .row [.int .i64], .row [.int .i64, .int .i64, .int .i64]])] [(.ret, [14], [(220, [(14, .k .bool)], [])]), (.exit 2, [3, 5, 6, 7, 8, 15, 17], [(220, [(3, .k (.ro [.int .i64])), (5, .k (.int .i64)), (6, .k (.int .i64)), (7, .ptr 0 3 0 0), (8, .ptr 1 4 0 0), (15, .sl 2 1), (17, .nils)], [.box [.k (.ro [.int .i64, .int .i64, .int .i64, .int .i64, .int .i64]), .k (.ro [.int .i64, .int .i64]), .k (.ro [.int .i64, .int .i64, .int .i64])], .box [.k (.int .i64), .k (.int .i64), .k (.ro [.int .i64, .int .i64, .int .i64]), .k (.ro [.int .i64])], .row [.int .i64]]), (220, [(3, .k (.ro [.int .i64])), (5, .k (.int .i64)), (6, .k (.int .i64)), (7, .ptr 0 3 0 0), (8, .ptr 1 4 0 0), (15, .sl 2 1), (17, .sl 3 3)], [.box [.k (.ro [.int .i64, .int .i64, .int .i64, .int .i64, .int .i64]), .k (.ro [.int .i64, .int .i64]), .k (.ro [.int .i64, .int .i64, .int .i64])], .box [.k (.int .i64), .k (.int .i64), .k (.ro [.int .i64, .int .i64, .int .i64]), .k (.ro [.int .i64])], .row [.int .i64], .row [.int .i64, .int .i64, .int .i64]])])]
def l3_31 : LSig := mkLS [3, 5, 6, 7, 8, 15, 17, 23, 25, 26] [(220, [(3, .k (.ro [.int .i64])), (5, .k (.int .i64)), (6, .k (.int .i64)), (7, .ptr 0 3 0 0), (8, .ptr 1 4 0 0), (15, .sl 2 1), (17, .sl 3 3), (23, .sl 4 1), (25, .k (.int .i64)), (26, .k (.int .i64))], [.box [.k (.ro [.int .i64, .int .i64, .int .i64, .int .i64, .int .i64]), .k (.ro [.int .i64, .int .i64]), .k (.ro [.int .i64, .int .i64, .int .i64])], .box [.k (.int .i64), .k (.int .i64), .k (.ro [.int .i64, .int .i64, .int .i64]), .k (.ro [.int .i64])], .row [.int .i64], .row [.int .i64, .int .i64, .int .i64], .row [.int .i64]])] [(.exit 4, [], [(220, [], [])]), (.ret, [14], [(220, [(14, .k .bool)], [])])]
def s42 : Sig := ⟨[.k (.ro [.int .i64]), .k (.ro [.int .i64])], [(.k .bool, [])]⟩
def l42_4 : LSig := mkLS [0, 1, 5] [(26, [(0, .k (.ro [.int .i64])), (1, .k (.ro [.int .i64])), (5, .k (.int .i64))], [])] [(.ret, [4], [(26, [(4, .k .bool)], [])]), (.exit 0, [], [(26, [], [])])]
noncomputable section
def G10 (ds : List D) : T (List D) := match ds with
 | [] => .leaf [.b true]
 | _ => .fail
def betwV (k : Nat) (lo hi : Int) (r u p : List (List D)) (a b : Int) : Int := sumAtM k lo hi r u p b - sumAtM k lo hi r u p a
def G12w (ds : List D) : T (List D) := match ds with
 | [p, c, j, lo, hi, r, u, a, b] => .need (yes (betwB lo.I hi.I r.L u.L p.L c.L j.L a.I b.I = true)) (.leaf [.i (betwV 0 lo.I hi.I r.L u.L p.L a.I b.I), .i (betwV 1 lo.I hi.I r.L u.L p.L a.I b.I), .i 0])
 | _ => .fail
def G14w (ds : List D) : T (List D) := match ds with
 | [t, r, s, l] => .need (yes (tankP t.I r.I s.I l.L)) (.ite (fuelOk t.I r.I s.I l.L) (.leaf [.i 1, .i l.L.length, .i 0, .l (outs l.L r.I s.I)]) (.leaf [.i 0, .i 5]))
 | _ => .fail
def rgI (t : List (List D)) (j : Nat) : Int := ix (t.getD j []) 0
def plF (cuts : List (List D)) (i : Nat) : List (List D) := [.i 0] :: (List.range i).map fun j => [.i (rgI cuts j)]
def cutAt (cuts : List (List D)) (n : Int) (j : Nat) : Bool := decide (rgI cuts j > rgI (plF cuts j) j) && decide (rgI cuts j < n)
def paceP (lo hi : Int) (r u p c j : List (List D)) : Prop := (roadP p c j ∧ spP lo hi r u) ∧ lenR p ≤ 120
def plOk (n : Int) (o : List (List D)) : Prop := o.length ≤ 10 ∧ ∀ k, k + 1 < o.length → 0 ≤ rgI o k ∧ rgI o k ≤ rgI o (k + 1) ∧ rgI o (k + 1) ≤ n
def legI (lo hi : Int) (r u p fills o : List (List D)) (k : Nat) : List D :=
 [.i ((betwV 0 lo hi r u p (rgI o k) (rgI o (k + 1))).tdiv 100000), .i ((betwV 1 lo hi r u p (rgI o k) (rgI o (k + 1))).tdiv 100000 + 1), .i (if k < fills.length then rgI fills k else 0)]
def legsF (lo hi : Int) (r u p fills o : List (List D)) (n : Nat) : List (List D) := (List.range n).map (legI lo hi r u p fills o)
def G3_5 (ds : List D) : T (Ex × List D) := match ds with
 | [cuts, sh, fi, ta, re, s, i, p, c, j, lo, hi, r, u, o] => .need (yes (manyP p.L ∧ lenR p.L ≤ 120 ∧ cuts.L.length ≤ 7 ∧ 0 ≤ i.I ∧ i.I ≤ cuts.L.length ∧ s.I = i.I + 1 ∧ o.L = plF cuts.L i.I.toNat))
     (.ite (allFrom (cutAt cuts.L (lenR p.L)) i.I.toNat (cuts.L.length - i.I.toNat)) (.leaf (.exit 0, [.l sh.L, .l fi.L, .i ta.I, .i re.I, .i (cuts.L.length + 1 : Nat), .l p.L, .l c.L, .l j.L, .i lo.I, .i hi.I, .l r.L, .l u.L, .l (plF cuts.L cuts.L.length)])) (.leaf (.ret, [.b true])))
 | _ => .fail
def G3_13 (ds : List D) : T (Ex × List D) := match ds with
 | [z, sh, fi, ta, re, s, i, p, c, j, lo, hi, r, u, o] => .need (yes (z.I = 0 ∧ paceP lo.I hi.I r.L u.L p.L c.L j.L ∧ plOk (lenR p.L) o.L ∧ s.I = o.L.length ∧ i.I = 0 ∧ 2 ≤ o.L.length))
     (.leaf (.exit 2, [.i 1, .l sh.L, .i ta.I, .i re.I, .i o.L.length, .i (o.L.length - 1 : Nat), .l p.L, .l c.L, .l j.L, .i lo.I, .i hi.I, .l r.L, .l u.L, .l o.L, .l (legsF lo.I hi.I r.L u.L p.L fi.L o.L (o.L.length - 1))]))
 | [z, sh, fi, ta, re, s, t, i, p, c, j, lo, hi, r, u, o, w] => .need (yes (z.I = 1 ∧ paceP lo.I hi.I r.L u.L p.L c.L j.L ∧ plOk (lenR p.L) o.L ∧ s.I = o.L.length ∧ 1 ≤ i.I ∧ i.I ≤ o.L.length - 1 ∧ t.I = i.I ∧ w.L = legsF lo.I hi.I r.L u.L p.L fi.L o.L i.I.toNat))
     (.leaf (.exit 2, [.i 1, .l sh.L, .i ta.I, .i re.I, .i o.L.length, .i (o.L.length - 1 : Nat), .l p.L, .l c.L, .l j.L, .i lo.I, .i hi.I, .l r.L, .l u.L, .l o.L, .l (legsF lo.I hi.I r.L u.L p.L fi.L o.L (o.L.length - 1))]))
 | _ => .fail
def levP (t r : Int) (l am : List (List D)) (i : Nat) (x : Int) : Prop := ∃ lo hi, (lo ≤ x ∧ x ≤ hi) ∧ (0 ≤ lo ∧ hi ≤ t) ∧ safeFrom t r l am i (l.length - i) lo hi = true
def amP (l am : List (List D)) : Prop := am.length = l.length ∧ ∀ k, k < l.length → 0 ≤ rgI am k ∧ rgI am k ≤ 1000000
def G3_31 (ds : List D) : T (Ex × List D) := match ds with
 | [_, ta, re, s, t, v, lev, i, p, c, j, lo, hi, r, u, o, w, l] => .need (yes ((paceP lo.I hi.I r.L u.L p.L c.L j.L ∧ plOk (lenR p.L) o.L) ∧ (s.I = o.L.length ∧ t.I = w.L.length ∧ v.I = l.L.length) ∧ (∃ fi, w.L = legsF lo.I hi.I r.L u.L p.L fi o.L w.L.length) ∧ w.L.length + 1 = o.L.length ∧ amP w.L l.L ∧
       (0 ≤ re.I ∧ ta.I ≤ 1000000) ∧ 0 ≤ i.I ∧ i.I ≤ w.L.length ∧ levP ta.I re.I w.L l.L i.I.toNat lev.I))
     (.leaf (.exit 4, []))
 | _ => .fail
end
noncomputable section
def G42 (ds : List D) : T (List D) := match ds with
 | [a, b] => .need (yes (a.L.length < big)) (.leaf [.b (sameL a.L b.L)])
 | _ => .fail
def G42_4 (ds : List D) : T (Ex × List D) := match ds with
 | [a, b, i] => .need (yes (a.L.length < big ∧ a.L.length = b.L.length ∧ 0 ≤ i.I ∧ i.I ≤ a.L.length))
     (.ite (allFrom (sameAt a.L b.L) i.I.toNat (a.L.length - i.I.toNat)) (.leaf (.exit 0, [])) (.leaf (.ret, [.b false])))
 | _ => .fail
end
noncomputable def sp42 : SpL := []
noncomputable def lp42 : LpL := [(4, mkL l42_4 G42_4)]
noncomputable def sw42 : SwL := []
noncomputable def tab42 : Tab := mkTab sp42 lp42 sw42
noncomputable def sp10 : SpL := [(12, mkF s12 G12w), (14, mkF s14 G14w), (41, mkF s41 G41), (42, mkF s42 G42)]
noncomputable def lp10 : LpL := []
noncomputable def sw10 : SwL := []
noncomputable def tab10 : Tab := mkTab sp10 lp10 sw10
set_option linter.unusedVariables false
set_option maxRecDepth 100000
theorem t42 (a b : D) : fnT C tab42 42 s42 [a, b] =
 T.ite ((a.L.length : Int) != (b.L.length : Int)) (T.leaf [D.b false]) (T.need (yes (a.L.length < big ∧ a.L.length = b.L.length ∧ (0 : Int) ≤ (0 : Int) ∧ (0 : Int) ≤ (a.L.length : Int))) (T.ite (allFrom (sameAt a.L b.L) (Int.toNat (0 : Int)) (a.L.length - Int.toNat (0 : Int))) (T.leaf [D.b true]) (T.leaf [D.b false]))) := by kernel_rfl
theorem t42_4 (a b c : D) : roundT C tab42 42 (loopOf C.P 42 4) l42_4 [a, b, c] =
 T.ite (decide (c.I < (a.L.length : Int))) (T.need (decide ((0 : Int) ≤ c.I ∧ c.I < (a.L.length : Int))) (T.need (decide ((0 : Int) ≤ c.I ∧ c.I < (b.L.length : Int))) (T.ite (D.I (List.getD (List.getD a.L c.I.toNat []) 0 default) != D.I (List.getD (List.getD b.L c.I.toNat []) 0 default)) (T.leaf (Rd.out Ex.ret [D.b false])) (T.leaf (Rd.again [D.l a.L, D.l b.L, D.i (IntKind.i64.wrap (c.I + (1 : Int)))]))))) (T.leaf (Rd.out (Ex.exit 0) [])) := by kernel_rfl
theorem t10 : fnT C tab10 10 s10 [] =
 T.need true (T.need true (T.need true (T.need (yes (betwB (100 : Int) (200 : Int) (List.take (List.length [[D.i 5, D.i 50, D.i 100]]) [[D.i 5, D.i 50, D.i 100]]) (List.take (List.length [[D.i 100], [D.i 100], [D.i 100], [D.i 100], [D.i 100], [D.i 100], [D.i 100], [D.i 100], [D.i 100]]) [[D.i 100], [D.i 100], [D.i 100], [D.i 100], [D.i 100], [D.i 100], [D.i 100], [D.i 100], [D.i 100]]) (List.take (List.length [[D.i 1000, D.i 0, D.i 0, D.i 50, D.i 1]]) [[D.i 1000, D.i 0, D.i 0, D.i 50, D.i 1]]) [] [] (0 : Int) (1000 : Int) = true)) (T.need true (T.need (yes (tankP (50 : Int) (5 : Int) (10 : Int) (List.take (List.length [[D.i 10, D.i 20, D.i 30], [D.i 10, D.i 25, D.i 30]]) [[D.i 10, D.i 20, D.i 30], [D.i 10, D.i 25, D.i 30]]))) (T.ite true (T.need true (T.ite true (T.ite true (T.ite true (T.ite true (T.ite true (T.ite true (T.need true (T.need true (T.need (yes (List.length (List.take (Int.toNat (↑(List.length (List.take (List.length [[D.i 10, D.i 20, D.i 30], [D.i 10, D.i 25, D.i 30]]) [[D.i 10, D.i 20, D.i 30], [D.i 10, D.i 25, D.i 30]])) : Int)) (outs (List.take (List.length [[D.i 10, D.i 20, D.i 30], [D.i 10, D.i 25, D.i 30]]) [[D.i 10, D.i 20, D.i 30], [D.i 10, D.i 25, D.i 30]]) (5 : Int) (10 : Int))) < big)) (T.ite true (T.leaf [D.b true]) (T.leaf [D.b false]))))) (T.leaf [D.b false])) (T.leaf [D.b false])) (T.leaf [D.b false])) (T.leaf [D.b false])) (T.leaf [D.b false])) (T.ite true (T.ite true (T.ite false (T.ite true (T.ite true (T.need true (T.need true (T.need (yes (List.length (List.take (Int.toNat (↑(List.length (List.take (List.length [[D.i 10, D.i 20, D.i 30], [D.i 10, D.i 25, D.i 30]]) [[D.i 10, D.i 20, D.i 30], [D.i 10, D.i 25, D.i 30]])) : Int)) (outs (List.take (List.length [[D.i 10, D.i 20, D.i 30], [D.i 10, D.i 25, D.i 30]]) [[D.i 10, D.i 20, D.i 30], [D.i 10, D.i 25, D.i 30]]) (5 : Int) (10 : Int))) < big)) (T.ite true (T.leaf [D.b false]) (T.leaf [D.b false]))))) (T.leaf [D.b false])) (T.leaf [D.b false])) (T.leaf [D.b false])) (T.leaf [D.b false])) (T.leaf [D.b false])))) (T.need true (T.ite true (T.ite true (T.ite false (T.ite true (T.ite true (T.ite true (T.need true (T.need (yes (List.length ([] : List (List D)) < big)) (T.ite false (T.leaf [D.b true]) (T.leaf [D.b false])))) (T.leaf [D.b false])) (T.leaf [D.b false])) (T.leaf [D.b false])) (T.leaf [D.b false])) (T.leaf [D.b false])) (T.ite true (T.ite false (T.ite false (T.ite true (T.ite true (T.need true (T.need (yes (List.length ([] : List (List D)) < big)) (T.ite false (T.leaf [D.b false]) (T.leaf [D.b false])))) (T.leaf [D.b false])) (T.leaf [D.b false])) (T.leaf [D.b false])) (T.leaf [D.b false])) (T.leaf [D.b false])))))))))) := by kernel_rfl
theorem ok42_4 (n : Nat) : LoopSim C n 42 (loopOf C.P 42 4) (mkL l42_4 G42_4) := by
 refine loop_of hC (sp := sp42) (lp := lp42) trivial [] (by kernel_rfl) rfl (fun k hk => by cases hk) (by kernel_rfl) (fun ds => (((ds.getD 0 default).L.length : Int) - (ds.getD 2 default).I).toNat) fun ds r h => ?_
 unfold G42_4 at h
 split at h
 ·rename_i a b i
  obtain ⟨hp, h⟩ := need_some h
  rw [yes_iff] at hp
  obtain ⟨h1, h2, h3, h4⟩ := hp
  have hb : big = 4611686018427387904 := rfl
  refine ⟨by rw [fuelC]; simp; omega, ?_⟩
  rw [show roundT C (mkTab sp42 lp42) 42 (loopOf C.P 42 4) l42_4 [a, b, i] = _ from t42_4 a b i]
  obtain ⟨k, hk⟩ : ∃ k : Nat, i.I = k := ⟨i.I.toNat, by omega⟩
  simp only [run_ite, run_need, run_leaf, hk, Int.toNat_natCast] at h h4 ⊢
  refine all_loop (p := sameAt a.L b.L) (i := k) (len := a.L.length) [D.l a.L, D.l b.L, D.i (k + 1 : Nat)] h ?_ ?_
  ·simp only [wrap_succ (show k < 9223372036854775807 by omega), ix_def, sameAt]
   grind
  ·intro hlt hp hh
   refine ⟨Eq.trans (need_yes (p := _) (t := _) ?_) hh, ?_⟩
   ·simp only [I_i, L_l]
    exact ⟨h1, h2, by omega, by omega⟩
   ·show ((a.L.length : Int) - ((k + 1 : Nat) : Int)).toNat < ((a.L.length : Int) - i.I).toNat
    omega
 ·cases h
theorem ok42 (n : Nat) : FnOK C (n + 1) 42 (mkF s42 G42) := by
 refine fn_of hC (sp := sp42) (lp := lp42) trivial (by kernel_rfl) [4] (by kernel_rfl) (by kernel_rfl) (fun k hk L hL => by simp at hk; subst hk; cases hL; exact ok42_4 n) fun ds r h => ?_
 unfold G42 at h
 split at h
 ·rename_i a b
  obtain ⟨hp, h⟩ := need_some h
  rw [yes_iff] at hp
  rw [← h]
  refine (congrArg T.run (t42 a b)).trans ?_
  have e1 : ((a.L.length : Int) = b.L.length) ↔ a.L.length = b.L.length := Int.ofNat_inj
  simp only [run_ite, run_need, run_leaf, yes_iff, Int.toNat_zero, Nat.sub_zero, sameL]
  grind
 ·cases h
noncomputable def sp3 : SpL := [(8, mkF s8 G8), (9, mkF s9 G9), (10, mkF s10 G10), (11, mkF s11 G11), (12, mkF s12 G12w), (13, mkF s13 G13), (14, mkF s14 G14w)]
noncomputable def lp3 : LpL := [(5, mkL l3_5 G3_5), (13, mkL l3_13 G3_13), (31, mkL l3_31 G3_31)]
noncomputable def sw3 : SwL := []
noncomputable def tab3 : Tab := mkTab sp3 lp3 sw3
set_option linter.unusedVariables false
set_option maxRecDepth 100000
theorem t3 (a b c d e f g h i j k l : D) : fnT C tab3 3 s3 [a, b, c, d, e, f, g, h, i, j, k, l] =
 T.ite (!(roadOk a.L b.L c.L && decide (lenR a.L ≤ (120 : Int)))) (T.leaf [D.b true]) (T.ite (!speedsOk d.I e.I f.L g.L) (T.leaf [D.b true]) (T.ite (decide ((h.L.length : Int) > (7 : Int))) (T.leaf [D.b true]) (T.need (yes (manyP a.L ∧ lenR a.L ≤ (120 : Int) ∧ h.L.length ≤ 7 ∧ (0 : Int) ≤ (0 : Int) ∧ (0 : Int) ≤ (h.L.length : Int) ∧ (↑(List.length [[D.i 0]]) : Int) = (0 : Int) + (1 : Int) ∧ [[D.i 0]] = plF h.L (Int.toNat (0 : Int)))) (T.ite (allFrom (cutAt h.L (lenR a.L)) (Int.toNat (0 : Int)) (h.L.length - Int.toNat (0 : Int))) (T.need (yes (a.L.length ≤ 2000 ∧ allFrom (pieceAt a.L) 0 a.L.length = true)) (T.need true (T.ite false (T.need (yes ((↑0 : Int) = (0 : Int) ∧ paceP d.I e.I f.L g.L a.L b.L c.L ∧ plOk (lenR a.L) (plF h.L h.L.length) ∧ (↑(Int.toNat (↑(h.L.length + 1) : Int)) : Int) = (↑(List.length (plF h.L h.L.length)) : Int) ∧ (0 : Int) = (0 : Int) ∧ 2 ≤ List.length (plF h.L h.L.length))) (T.need (decide (Int.toNat (↑(List.length (plF h.L h.L.length) - 1) : Int) ≤ List.length (legsF d.I e.I f.L g.L a.L j.L (plF h.L h.L.length) (List.length (plF h.L h.L.length) - 1)))) (T.ite (!tankOk k.I l.I l.I (List.take (Int.toNat (↑(List.length (plF h.L h.L.length) - 1) : Int)) (legsF d.I e.I f.L g.L a.L j.L (plF h.L h.L.length) (List.length (plF h.L h.L.length) - 1)))) (T.leaf [D.b true]) (T.need (decide (Int.toNat (↑(List.length (plF h.L h.L.length) - 1) : Int) ≤ List.length (legsF d.I e.I f.L g.L a.L j.L (plF h.L h.L.length) (List.length (plF h.L h.L.length) - 1)))) (T.need (yes (tankP k.I l.I l.I (List.take (Int.toNat (↑(List.length (plF h.L h.L.length) - 1) : Int)) (legsF d.I e.I f.L g.L a.L j.L (plF h.L h.L.length) (List.length (plF h.L h.L.length) - 1))))) (T.ite (fuelOk k.I l.I l.I (List.take (Int.toNat (↑(List.length (plF h.L h.L.length) - 1) : Int)) (legsF d.I e.I f.L g.L a.L j.L (plF h.L h.L.length) (List.length (plF h.L h.L.length) - 1)))) (T.ite false (T.ite false (T.leaf [D.b true]) (T.leaf [D.b false])) (T.ite ((↑(Int.toNat (↑(List.length (List.take (Int.toNat (↑(List.length (plF h.L h.L.length) - 1) : Int)) (legsF d.I e.I f.L g.L a.L j.L (plF h.L h.L.length) (List.length (plF h.L h.L.length) - 1)))) : Int)) : Int) != (↑(Int.toNat (↑(List.length (plF h.L h.L.length) - 1) : Int)) : Int)) (T.leaf [D.b false]) (T.need (yes ((paceP d.I e.I f.L g.L a.L b.L c.L ∧ plOk (lenR a.L) (plF h.L h.L.length)) ∧ ((↑(Int.toNat (↑(List.length (plF h.L h.L.length)) : Int)) : Int) = (↑(List.length (plF h.L h.L.length)) : Int) ∧ (↑(Int.toNat (↑(List.length (plF h.L h.L.length) - 1) : Int)) : Int) = (↑(List.length (legsF d.I e.I f.L g.L a.L j.L (plF h.L h.L.length) (List.length (plF h.L h.L.length) - 1))) : Int) ∧ (↑(Int.toNat (↑(List.length (List.take (Int.toNat (↑(List.length (plF h.L h.L.length) - 1) : Int)) (legsF d.I e.I f.L g.L a.L j.L (plF h.L h.L.length) (List.length (plF h.L h.L.length) - 1)))) : Int)) : Int) = (↑(List.length (outs (List.take (Int.toNat (↑(List.length (plF h.L h.L.length) - 1) : Int)) (legsF d.I e.I f.L g.L a.L j.L (plF h.L h.L.length) (List.length (plF h.L h.L.length) - 1))) l.I l.I)) : Int)) ∧ (∃ fi, legsF d.I e.I f.L g.L a.L j.L (plF h.L h.L.length) (List.length (plF h.L h.L.length) - 1) = legsF d.I e.I f.L g.L a.L fi (plF h.L h.L.length) (List.length (legsF d.I e.I f.L g.L a.L j.L (plF h.L h.L.length) (List.length (plF h.L h.L.length) - 1)))) ∧ List.length (legsF d.I e.I f.L g.L a.L j.L (plF h.L h.L.length) (List.length (plF h.L h.L.length) - 1)) + 1 = List.length (plF h.L h.L.length) ∧ amP (legsF d.I e.I f.L g.L a.L j.L (plF h.L h.L.length) (List.length (plF h.L h.L.length) - 1)) (outs (List.take (Int.toNat (↑(List.length (plF h.L h.L.length) - 1) : Int)) (legsF d.I e.I f.L g.L a.L j.L (plF h.L h.L.length) (List.length (plF h.L h.L.length) - 1))) l.I l.I) ∧ ((0 : Int) ≤ l.I ∧ k.I ≤ (1000000 : Int)) ∧ (0 : Int) ≤ (0 : Int) ∧ (0 : Int) ≤ (↑(List.length (legsF d.I e.I f.L g.L a.L j.L (plF h.L h.L.length) (List.length (plF h.L h.L.length) - 1))) : Int) ∧ levP k.I l.I (legsF d.I e.I f.L g.L a.L j.L (plF h.L h.L.length) (List.length (plF h.L h.L.length) - 1)) (outs (List.take (Int.toNat (↑(List.length (plF h.L h.L.length) - 1) : Int)) (legsF d.I e.I f.L g.L a.L j.L (plF h.L h.L.length) (List.length (plF h.L h.L.length) - 1))) l.I l.I) (Int.toNat (0 : Int)) l.I)) (T.leaf [D.b true])))) (T.ite true (T.ite true (T.leaf [D.b true]) (T.leaf [D.b false])) (T.ite ((↑0 : Int) != (↑(Int.toNat (↑(List.length (plF h.L h.L.length) - 1) : Int)) : Int)) (T.leaf [D.b false]) T.fail)))))))) (T.need (decide (Int.toNat (↑(h.L.length + 1) : Int) ≤ List.length (plF h.L h.L.length) ∧ Int.toNat (↑(h.L.length + 1) : Int) + 1 ≤ 2 ^ 62 ∧ (Int.toNat (↑(h.L.length + 1) : Int) + 1) * Try.prog.types[3].bytes ≤ 2 ^ 47)) (T.need (yes ((↑0 : Int) = (0 : Int) ∧ paceP d.I e.I f.L g.L a.L b.L c.L ∧ plOk (lenR a.L) (List.take (Int.toNat (↑(h.L.length + 1) : Int)) (plF h.L h.L.length) ++ List.take (List.length [[D.i (lenR a.L)]]) [[D.i (lenR a.L)]]) ∧ (↑(Int.toNat (↑(h.L.length + 1) : Int) + 1) : Int) = (↑(List.length (List.take (Int.toNat (↑(h.L.length + 1) : Int)) (plF h.L h.L.length) ++ List.take (List.length [[D.i (lenR a.L)]]) [[D.i (lenR a.L)]])) : Int) ∧ (0 : Int) = (0 : Int) ∧ 2 ≤ List.length (List.take (Int.toNat (↑(h.L.length + 1) : Int)) (plF h.L h.L.length) ++ List.take (List.length [[D.i (lenR a.L)]]) [[D.i (lenR a.L)]]))) (T.need (decide (Int.toNat (↑(List.length (List.take (Int.toNat (↑(h.L.length + 1) : Int)) (plF h.L h.L.length) ++ List.take (List.length [[D.i (lenR a.L)]]) [[D.i (lenR a.L)]]) - 1) : Int) ≤ List.length (legsF d.I e.I f.L g.L a.L j.L (List.take (Int.toNat (↑(h.L.length + 1) : Int)) (plF h.L h.L.length) ++ List.take (List.length [[D.i (lenR a.L)]]) [[D.i (lenR a.L)]]) (List.length (List.take (Int.toNat (↑(h.L.length + 1) : Int)) (plF h.L h.L.length) ++ List.take (List.length [[D.i (lenR a.L)]]) [[D.i (lenR a.L)]]) - 1)))) (T.ite (!tankOk k.I l.I l.I (List.take (Int.toNat (↑(List.length (List.take (Int.toNat (↑(h.L.length + 1) : Int)) (plF h.L h.L.length) ++ List.take (List.length [[D.i (lenR a.L)]]) [[D.i (lenR a.L)]]) - 1) : Int)) (legsF d.I e.I f.L g.L a.L j.L (List.take (Int.toNat (↑(h.L.length + 1) : Int)) (plF h.L h.L.length) ++ List.take (List.length [[D.i (lenR a.L)]]) [[D.i (lenR a.L)]]) (List.length (List.take (Int.toNat (↑(h.L.length + 1) : Int)) (plF h.L h.L.length) ++ List.take (List.length [[D.i (lenR a.L)]]) [[D.i (lenR a.L)]]) - 1)))) (T.leaf [D.b true]) (T.need (decide (Int.toNat (↑(List.length (List.take (Int.toNat (↑(h.L.length + 1) : Int)) (plF h.L h.L.length) ++ List.take (List.length [[D.i (lenR a.L)]]) [[D.i (lenR a.L)]]) - 1) : Int) ≤ List.length (legsF d.I e.I f.L g.L a.L j.L (List.take (Int.toNat (↑(h.L.length + 1) : Int)) (plF h.L h.L.length) ++ List.take (List.length [[D.i (lenR a.L)]]) [[D.i (lenR a.L)]]) (List.length (List.take (Int.toNat (↑(h.L.length + 1) : Int)) (plF h.L h.L.length) ++ List.take (List.length [[D.i (lenR a.L)]]) [[D.i (lenR a.L)]]) - 1)))) (T.need (yes (tankP k.I l.I l.I (List.take (Int.toNat (↑(List.length (List.take (Int.toNat (↑(h.L.length + 1) : Int)) (plF h.L h.L.length) ++ List.take (List.length [[D.i (lenR a.L)]]) [[D.i (lenR a.L)]]) - 1) : Int)) (legsF d.I e.I f.L g.L a.L j.L (List.take (Int.toNat (↑(h.L.length + 1) : Int)) (plF h.L h.L.length) ++ List.take (List.length [[D.i (lenR a.L)]]) [[D.i (lenR a.L)]]) (List.length (List.take (Int.toNat (↑(h.L.length + 1) : Int)) (plF h.L h.L.length) ++ List.take (List.length [[D.i (lenR a.L)]]) [[D.i (lenR a.L)]]) - 1))))) (T.ite (fuelOk k.I l.I l.I (List.take (Int.toNat (↑(List.length (List.take (Int.toNat (↑(h.L.length + 1) : Int)) (plF h.L h.L.length) ++ List.take (List.length [[D.i (lenR a.L)]]) [[D.i (lenR a.L)]]) - 1) : Int)) (legsF d.I e.I f.L g.L a.L j.L (List.take (Int.toNat (↑(h.L.length + 1) : Int)) (plF h.L h.L.length) ++ List.take (List.length [[D.i (lenR a.L)]]) [[D.i (lenR a.L)]]) (List.length (List.take (Int.toNat (↑(h.L.length + 1) : Int)) (plF h.L h.L.length) ++ List.take (List.length [[D.i (lenR a.L)]]) [[D.i (lenR a.L)]]) - 1)))) (T.ite false (T.ite false (T.leaf [D.b true]) (T.leaf [D.b false])) (T.ite ((↑(Int.toNat (↑(List.length (List.take (Int.toNat (↑(List.length (List.take (Int.toNat (↑(h.L.length + 1) : Int)) (plF h.L h.L.length) ++ List.take (List.length [[D.i (lenR a.L)]]) [[D.i (lenR a.L)]]) - 1) : Int)) (legsF d.I e.I f.L g.L a.L j.L (List.take (Int.toNat (↑(h.L.length + 1) : Int)) (plF h.L h.L.length) ++ List.take (List.length [[D.i (lenR a.L)]]) [[D.i (lenR a.L)]]) (List.length (List.take (Int.toNat (↑(h.L.length + 1) : Int)) (plF h.L h.L.length) ++ List.take (List.length [[D.i (lenR a.L)]]) [[D.i (lenR a.L)]]) - 1)))) : Int)) : Int) != (↑(Int.toNat (↑(List.length (List.take (Int.toNat (↑(h.L.length + 1) : Int)) (plF h.L h.L.length) ++ List.take (List.length [[D.i (lenR a.L)]]) [[D.i (lenR a.L)]]) - 1) : Int)) : Int)) (T.leaf [D.b false]) (T.need (yes ((paceP d.I e.I f.L g.L a.L b.L c.L ∧ plOk (lenR a.L) (List.take (Int.toNat (↑(h.L.length + 1) : Int)) (plF h.L h.L.length) ++ List.take (List.length [[D.i (lenR a.L)]]) [[D.i (lenR a.L)]])) ∧ ((↑(Int.toNat (↑(List.length (List.take (Int.toNat (↑(h.L.length + 1) : Int)) (plF h.L h.L.length) ++ List.take (List.length [[D.i (lenR a.L)]]) [[D.i (lenR a.L)]])) : Int)) : Int) = (↑(List.length (List.take (Int.toNat (↑(h.L.length + 1) : Int)) (plF h.L h.L.length) ++ List.take (List.length [[D.i (lenR a.L)]]) [[D.i (lenR a.L)]])) : Int) ∧ (↑(Int.toNat (↑(List.length (List.take (Int.toNat (↑(h.L.length + 1) : Int)) (plF h.L h.L.length) ++ List.take (List.length [[D.i (lenR a.L)]]) [[D.i (lenR a.L)]]) - 1) : Int)) : Int) = (↑(List.length (legsF d.I e.I f.L g.L a.L j.L (List.take (Int.toNat (↑(h.L.length + 1) : Int)) (plF h.L h.L.length) ++ List.take (List.length [[D.i (lenR a.L)]]) [[D.i (lenR a.L)]]) (List.length (List.take (Int.toNat (↑(h.L.length + 1) : Int)) (plF h.L h.L.length) ++ List.take (List.length [[D.i (lenR a.L)]]) [[D.i (lenR a.L)]]) - 1))) : Int) ∧ (↑(Int.toNat (↑(List.length (List.take (Int.toNat (↑(List.length (List.take (Int.toNat (↑(h.L.length + 1) : Int)) (plF h.L h.L.length) ++ List.take (List.length [[D.i (lenR a.L)]]) [[D.i (lenR a.L)]]) - 1) : Int)) (legsF d.I e.I f.L g.L a.L j.L (List.take (Int.toNat (↑(h.L.length + 1) : Int)) (plF h.L h.L.length) ++ List.take (List.length [[D.i (lenR a.L)]]) [[D.i (lenR a.L)]]) (List.length (List.take (Int.toNat (↑(h.L.length + 1) : Int)) (plF h.L h.L.length) ++ List.take (List.length [[D.i (lenR a.L)]]) [[D.i (lenR a.L)]]) - 1)))) : Int)) : Int) = (↑(List.length (outs (List.take (Int.toNat (↑(List.length (List.take (Int.toNat (↑(h.L.length + 1) : Int)) (plF h.L h.L.length) ++ List.take (List.length [[D.i (lenR a.L)]]) [[D.i (lenR a.L)]]) - 1) : Int)) (legsF d.I e.I f.L g.L a.L j.L (List.take (Int.toNat (↑(h.L.length + 1) : Int)) (plF h.L h.L.length) ++ List.take (List.length [[D.i (lenR a.L)]]) [[D.i (lenR a.L)]]) (List.length (List.take (Int.toNat (↑(h.L.length + 1) : Int)) (plF h.L h.L.length) ++ List.take (List.length [[D.i (lenR a.L)]]) [[D.i (lenR a.L)]]) - 1))) l.I l.I)) : Int)) ∧ (∃ fi, legsF d.I e.I f.L g.L a.L j.L (List.take (Int.toNat (↑(h.L.length + 1) : Int)) (plF h.L h.L.length) ++ List.take (List.length [[D.i (lenR a.L)]]) [[D.i (lenR a.L)]]) (List.length (List.take (Int.toNat (↑(h.L.length + 1) : Int)) (plF h.L h.L.length) ++ List.take (List.length [[D.i (lenR a.L)]]) [[D.i (lenR a.L)]]) - 1) = legsF d.I e.I f.L g.L a.L fi (List.take (Int.toNat (↑(h.L.length + 1) : Int)) (plF h.L h.L.length) ++ List.take (List.length [[D.i (lenR a.L)]]) [[D.i (lenR a.L)]]) (List.length (legsF d.I e.I f.L g.L a.L j.L (List.take (Int.toNat (↑(h.L.length + 1) : Int)) (plF h.L h.L.length) ++ List.take (List.length [[D.i (lenR a.L)]]) [[D.i (lenR a.L)]]) (List.length (List.take (Int.toNat (↑(h.L.length + 1) : Int)) (plF h.L h.L.length) ++ List.take (List.length [[D.i (lenR a.L)]]) [[D.i (lenR a.L)]]) - 1)))) ∧ List.length (legsF d.I e.I f.L g.L a.L j.L (List.take (Int.toNat (↑(h.L.length + 1) : Int)) (plF h.L h.L.length) ++ List.take (List.length [[D.i (lenR a.L)]]) [[D.i (lenR a.L)]]) (List.length (List.take (Int.toNat (↑(h.L.length + 1) : Int)) (plF h.L h.L.length) ++ List.take (List.length [[D.i (lenR a.L)]]) [[D.i (lenR a.L)]]) - 1)) + 1 = List.length (List.take (Int.toNat (↑(h.L.length + 1) : Int)) (plF h.L h.L.length) ++ List.take (List.length [[D.i (lenR a.L)]]) [[D.i (lenR a.L)]]) ∧ amP (legsF d.I e.I f.L g.L a.L j.L (List.take (Int.toNat (↑(h.L.length + 1) : Int)) (plF h.L h.L.length) ++ List.take (List.length [[D.i (lenR a.L)]]) [[D.i (lenR a.L)]]) (List.length (List.take (Int.toNat (↑(h.L.length + 1) : Int)) (plF h.L h.L.length) ++ List.take (List.length [[D.i (lenR a.L)]]) [[D.i (lenR a.L)]]) - 1)) (outs (List.take (Int.toNat (↑(List.length (List.take (Int.toNat (↑(h.L.length + 1) : Int)) (plF h.L h.L.length) ++ List.take (List.length [[D.i (lenR a.L)]]) [[D.i (lenR a.L)]]) - 1) : Int)) (legsF d.I e.I f.L g.L a.L j.L (List.take (Int.toNat (↑(h.L.length + 1) : Int)) (plF h.L h.L.length) ++ List.take (List.length [[D.i (lenR a.L)]]) [[D.i (lenR a.L)]]) (List.length (List.take (Int.toNat (↑(h.L.length + 1) : Int)) (plF h.L h.L.length) ++ List.take (List.length [[D.i (lenR a.L)]]) [[D.i (lenR a.L)]]) - 1))) l.I l.I) ∧ ((0 : Int) ≤ l.I ∧ k.I ≤ (1000000 : Int)) ∧ (0 : Int) ≤ (0 : Int) ∧ (0 : Int) ≤ (↑(List.length (legsF d.I e.I f.L g.L a.L j.L (List.take (Int.toNat (↑(h.L.length + 1) : Int)) (plF h.L h.L.length) ++ List.take (List.length [[D.i (lenR a.L)]]) [[D.i (lenR a.L)]]) (List.length (List.take (Int.toNat (↑(h.L.length + 1) : Int)) (plF h.L h.L.length) ++ List.take (List.length [[D.i (lenR a.L)]]) [[D.i (lenR a.L)]]) - 1))) : Int) ∧ levP k.I l.I (legsF d.I e.I f.L g.L a.L j.L (List.take (Int.toNat (↑(h.L.length + 1) : Int)) (plF h.L h.L.length) ++ List.take (List.length [[D.i (lenR a.L)]]) [[D.i (lenR a.L)]]) (List.length (List.take (Int.toNat (↑(h.L.length + 1) : Int)) (plF h.L h.L.length) ++ List.take (List.length [[D.i (lenR a.L)]]) [[D.i (lenR a.L)]]) - 1)) (outs (List.take (Int.toNat (↑(List.length (List.take (Int.toNat (↑(h.L.length + 1) : Int)) (plF h.L h.L.length) ++ List.take (List.length [[D.i (lenR a.L)]]) [[D.i (lenR a.L)]]) - 1) : Int)) (legsF d.I e.I f.L g.L a.L j.L (List.take (Int.toNat (↑(h.L.length + 1) : Int)) (plF h.L h.L.length) ++ List.take (List.length [[D.i (lenR a.L)]]) [[D.i (lenR a.L)]]) (List.length (List.take (Int.toNat (↑(h.L.length + 1) : Int)) (plF h.L h.L.length) ++ List.take (List.length [[D.i (lenR a.L)]]) [[D.i (lenR a.L)]]) - 1))) l.I l.I) (Int.toNat (0 : Int)) l.I)) (T.leaf [D.b true])))) (T.ite true (T.ite true (T.leaf [D.b true]) (T.leaf [D.b false])) (T.ite ((↑0 : Int) != (↑(Int.toNat (↑(List.length (List.take (Int.toNat (↑(h.L.length + 1) : Int)) (plF h.L h.L.length) ++ List.take (List.length [[D.i (lenR a.L)]]) [[D.i (lenR a.L)]]) - 1) : Int)) : Int)) (T.leaf [D.b false]) T.fail)))))))))))) (T.leaf [D.b true]))))) := by kernel_rfl
set_option maxRecDepth 100000
theorem fn_weak {n f : Nat} {s : Sig} {G G' : List D → T (List D)} (h : FnOK C n f (mkF s G)) (hw : ∀ ds r, (G' ds).run = some r → (G ds).run = some r) : FnOK C n f (mkF s G') := h.mono fun args v hb hr => by
 unfold mkF at hr ⊢
 split
 ·rename_i ds hds
  simp only [hds, T.run_map, Option.map_eq_some_iff] at hr ⊢
  obtain ⟨r, h1, h2⟩ := hr
  exact ⟨r, hw _ _ h1, h2⟩
 ·rename_i hds
  simp only [hds] at hr
  cases hr
theorem ok12w (n : Nat) : FnOK C (n + 7) 12 (mkF s12 G12w) := fn_weak (ok12 n) fun ds r h => by
 unfold G12w at h
 split at h
 ·obtain ⟨hp, h⟩ := need_some h
  rw [yes_iff] at hp
  unfold G12
  exact go_true hp h
 ·cases h
theorem ok14w (n : Nat) : FnOK C (n + 6) 14 (mkF s14 G14w) := fn_weak (ok14 n) fun ds r h => by
 unfold G14w at h
 split at h
 ·rename_i t r' s l
  obtain ⟨hp, h⟩ := need_some h
  rw [yes_iff] at hp
  have hp' : tankOk t.I r'.I s.I l.L = true := hp
  have hb : big = 4611686018427387904 := rfl
  have hl : l.L.length ≤ 50 := by
   have h2 := hp'
   simp only [tankOk, Bool.and_eq_true, decide_eq_true_eq] at h2
   exact h2.1.2
  unfold G14
  refine go_yes (by omega) ?_
  rw [hp']
  exact h
 ·cases h
theorem rg_ix (R : List (List D)) (j : Nat) : ix (R.getD j []) 0 = rgI R j := rfl
theorem sumI_append (k : Nat) (a b : List (List D)) : sumI k (a ++ b) = sumI k a + sumI k b := by simp [sumI]
theorem sumI_le : ∀ (L : List (List D)), (∀ x ∈ L, ix x 0 ≤ ix x 1) → sumI 0 L ≤ sumI 1 L
 | [], _ => by simp [sumI]
 | x :: L, h => by
   have h1 := sumI_le L fun y hy => h y (List.mem_cons_of_mem _ hy)
   have h2 := h x List.mem_cons_self
   rw [sumI_cons, sumI_cons]
   omega
theorem take_seg {L : List (List D)} {a b : Nat} (h : a ≤ b) : L.take b = L.take a ++ (L.take b).drop a := by
 have := (List.take_append_drop a (L.take b)).symm
 rwa [List.take_take, Nat.min_eq_left h] at this
theorem betw_rng {lo hi : Int} {r u p c j : List (List D)} (h : paceP lo hi r u p c j) {a b : Int} (ha : 0 ≤ a) (hab : a ≤ b) (hb : b ≤ lenR p) : betwB lo hi r u p c j a b = true ∧ 0 ≤ betwV 0 lo hi r u p a b ∧ betwV 0 lo hi r u p a b ≤ betwV 1 lo hi r u p a b ∧ betwV 1 lo hi r u p a b ≤ 2400000000 := by
 obtain ⟨⟨hr, hs⟩, hl⟩ := h
 obtain ⟨hm, -, -, -, -⟩ := road_of hr
 have hr' : roadOk p c j = true := hr
 have hs' : speedsOk lo hi r u = true := hs
 have hlen := mets_len (lo := lo) (hi := hi) (r := r) (u := u) hm
 have hall := mets_all (lo := lo) (hi := hi) (r := r) (u := u) hs hm
 have hx : ∀ x ∈ ((mets lo hi r u p).take b.toNat).drop a.toNat, metP x ∧ ix x 0 ≤ ix x 1 := fun x hx => hall x (List.mem_of_mem_take (List.mem_of_mem_drop hx))
 have key : ∀ k, k ≤ 1 → betwV k lo hi r u p a b = sumI k (((mets lo hi r u p).take b.toNat).drop a.toNat) := fun k hk => by
  unfold betwV sumAtM
  rw [sums_get (by omega), sums_get (by omega)]
  have e := congrArg (sumI k) (take_seg (L := mets lo hi r u p) (a := a.toNat) (b := b.toNat) (by omega))
  rw [sumI_append] at e
  have : k = 0 ∨ k = 1 := by omega
  rcases this with rfl | rfl
  ·show sumI 0 _ - sumI 0 _ = _
   omega
  ·show sumI 1 _ - sumI 1 _ = _
   omega
 have h0 := sumI_rng _ 0 (by omega) fun x h => (hx x h).1
 have h1 := sumI_rng _ 1 (by omega) fun x h => (hx x h).1
 have h2 := sumI_le _ fun x h => (hx x h).2
 have hlb : (((mets lo hi r u p).take b.toNat).drop a.toNat).length ≤ (mets lo hi r u p).length := by rw [List.length_drop, List.length_take]; omega
 rw [key 0 (by omega), key 1 (by omega)]
 refine ⟨?_, h0.1, h2, by omega⟩
 unfold betwB
 rw [hr', hs', Lite.within_iff.2 ⟨ha, by omega⟩, Lite.within_iff.2 ⟨by omega, hb⟩, decide_eq_true hab]
 rfl
theorem ok10 : FnOK C 12 10 (mkF s10 G10) := by
 refine fn_ofS hC (n := 11) (sp := sp10) (lp := lp10) (sw := sw10) ⟨ok12w 4, ok14w 5, ok41 6, ok42 10, trivial⟩ trivial (by kernel_rfl) [] (by kernel_rfl) rfl (fun k hk => by cases hk) fun ds rr h => ?_
 unfold G10 at h
 split at h
 ·refine (congrArg T.run t10).trans ?_
  refine go_need rfl (go_need rfl (go_need rfl (go_yes (by kernel_rfl) (go_need rfl (go_yes (by unfold tankP; kernel_rfl) (go_true rfl (go_need rfl (go_true rfl (go_true rfl (go_true rfl (go_true rfl (go_true rfl (go_true rfl (go_need rfl (go_need rfl (go_yes (by decide) (go_true rfl ?_)))))))))))))))))
  exact h
 ·cases h
set_option maxRecDepth 100000
theorem updF_alls {g : List D → List D} : ∀ (k i : Nat) (l : List (List D)), i + k = l.length → updF g i k l = l.take i ++ (l.drop i).map g
 | 0, i, l, h => by
   rw [List.drop_eq_nil_of_le (by omega), List.take_of_length_le (by omega)]
   simp [updF]
 | k + 1, i, l, h => by
   have hi : i < l.length := by omega
   simp only [updF]
   rw [updF_alls k (i + 1) _ (by simp; omega)]
   rw [List.drop_eq_getElem_cons hi, List.map_cons, List.getD_eq_getElem?_getD, List.getElem?_eq_getElem hi, Option.getD_some]
   rw [List.drop_set_of_lt (by omega), List.take_add_one, List.getElem?_set_self (by omega), List.take_set_of_le (by omega)]
   simp
theorem updF_all {g : List D → List D} (l : List (List D)) : updF g 0 l.length l = l.map g := by
 rw [updF_alls _ _ _ (by omega)]
 simp
theorem rev_map {can U f : List D → List D} {l : List (List D)} (hc : ∀ x, f (U (can x)) = f (U x)) (hl : 1 ≤ l.length) : (updF U 0 l.length (revR can l)).map f = (l.map fun x => f (U x)).reverse := by
 have h := updF_all (g := U) (revR can l)
 rw [revR_length] at h
 rw [h, List.map_map]
 exact revR_map (can := can) (f := fun x => f (U x)) hc hl
theorem rev_get {can U : List D → List D} {l : List (List D)} (k : Nat) (hc : ∀ x, ix (U (can x)) k = ix (U x) k) {i : Nat} (hi : i < l.length) : ix ((updF U 0 l.length (revR can l)).getD i []) k = ix (U (l.getD (l.length - 1 - i) [])) k := by
 have h := rev_map (can := can) (U := U) (f := fun x => [.i (ix x k)]) (l := l) (fun x => by rw [hc]) (by omega)
 have hlen : (updF U 0 l.length (revR can l)).length = l.length := by rw [updF_length, revR_length]
 have h1 := congrArg (fun L => L[i]?) h
 simp only [List.getElem?_map, List.getElem?_reverse (show i < (l.map fun x => [D.i (ix (U x) k)]).length by simpa using hi), List.length_map] at h1
 rw [List.getElem?_eq_getElem (by omega), List.getElem?_eq_getElem (by omega)] at h1
 simp only [Option.map_some, Option.some.injEq, List.cons.injEq, D.i.injEq, and_true] at h1
 rw [List.getD_eq_getElem?_getD, List.getElem?_eq_getElem (by omega), Option.getD_some, h1, List.getD_eq_getElem?_getD, List.getElem?_eq_getElem (by omega), Option.getD_some]
theorem turn_get {p : List (List D)} {i : Nat} (hi : i < p.length) (k : Nat) (hk : k ≤ 4) : ix ((turnR p).getD i []) k = ix (turnU (p.getD (p.length - 1 - i) [])) k :=
 rev_get k (fun x => by
  match k, hk with
  | 0, _ => rfl
  | 1, _ => rfl
  | 2, _ => rfl
  | 3, _ => rfl
  | 4, _ => rfl) hi
theorem turn0 {p : List (List D)} {i : Nat} (hi : i < p.length) : ix ((turnR p).getD i []) 0 = ix (p.getD (p.length - 1 - i) []) 0 := turn_get hi 0 (by omega)
theorem turn1 {p : List (List D)} {i : Nat} (hi : i < p.length) : ix ((turnR p).getD i []) 1 = IntKind.i64.wrap (0 - ix (p.getD (p.length - 1 - i) []) 1) := turn_get hi 1 (by omega)
theorem turn2 {p : List (List D)} {i : Nat} (hi : i < p.length) : ix ((turnR p).getD i []) 2 = ix (p.getD (p.length - 1 - i) []) 2 := turn_get hi 2 (by omega)
theorem turn3 {p : List (List D)} {i : Nat} (hi : i < p.length) : ix ((turnR p).getD i []) 3 = ix (p.getD (p.length - 1 - i) []) 3 := turn_get hi 3 (by omega)
theorem turn4 {p : List (List D)} {i : Nat} (hi : i < p.length) : ix ((turnR p).getD i []) 4 = ix (p.getD (p.length - 1 - i) []) 4 := turn_get hi 4 (by omega)
theorem piece_turn {p : List (List D)} {i : Nat} (hi : i < p.length) (h : pieceAt p (p.length - 1 - i) = true) : pieceAt (turnR p) i = true := by
 unfold pieceAt pieceP at h ⊢
 rw [turn0 hi, turn1 hi, turn2 hi, turn3 hi, turn4 hi]
 simp only [Bool.and_eq_true, Lite.within_iff] at h ⊢
 obtain ⟨⟨⟨⟨h1, h2⟩, h3⟩, h4⟩, h5⟩ := h
 rw [wrap_id (by omega) (by omega)]
 refine ⟨⟨⟨⟨h1, by omega⟩, h3⟩, h4⟩, ?_⟩
 by_cases hb : ix (p.getD (p.length - 1 - i) []) 1 = 0
 ·rw [if_pos hb] at h5
  rw [if_pos (by omega)]
  exact h5
 ·rw [if_neg hb] at h5
  rw [if_neg (by omega)]
  exact h5
theorem lenFrom_sum : ∀ (k i : Nat) (l : List (List D)), i + k = l.length → lenFrom l i k = ((l.drop i).map fun x => ix x 0).sum
 | 0, i, l, h => by rw [List.drop_eq_nil_of_le (by omega)]; rfl
 | k + 1, i, l, h => by
   have hi : i < l.length := by omega
   rw [lenFrom, lenFrom_sum k (i + 1) l (by omega), List.drop_eq_getElem_cons hi, List.map_cons, List.sum_cons, List.getD_eq_getElem?_getD, List.getElem?_eq_getElem hi, Option.getD_some]
theorem lenR_sum (l : List (List D)) : lenR l = (l.map fun x => ix x 0).sum := lenFrom_sum _ _ l (by omega)
theorem sum_reverse : ∀ (l : List Int), l.reverse.sum = l.sum
 | [] => rfl
 | x :: l => by rw [List.reverse_cons, List.sum_append, sum_reverse l, List.sum_cons, List.sum_cons, List.sum_nil]; omega
theorem ix_map {L M : List (List D)} {k : Nat} (h : (L.map fun x => [D.i (ix x k)]) = M.map fun x => [D.i (ix x k)]) : (L.map fun x => ix x k) = M.map fun x => ix x k := by
 have := congrArg (List.map fun x => ix x 0) h
 simpa [Function.comp_def, ix, D.I] using this
theorem len_turn {p : List (List D)} (hp : 1 ≤ p.length) : lenR (turnR p) = lenR p := by
 rw [lenR_sum, lenR_sum]
 have h := rev_map (can := can5) (U := turnU) (f := fun x => [.i (ix x 0)]) (l := p) (fun x => rfl) hp
 have h2 : (p.map fun x => [D.i (ix (turnU x) 0)]).reverse = p.reverse.map fun x => [D.i (ix x 0)] := by
  rw [← List.map_reverse]
  rfl
 rw [h2] at h
 rw [show turnR p = updF turnU 0 p.length (revR can5 p) from rfl, ix_map h, List.map_reverse, sum_reverse]
theorem crestR_length {n : Int} {c : List (List D)} : (crestR n c).length = c.length := by
 unfold crestR
 cases c with
 | nil => rfl
 | cons x c => rw [if_neg (by simp), updF_length, revR_length]
theorem crest_get {n : Int} {c : List (List D)} {i : Nat} (hi : i < c.length) : ix ((crestR n c).getD i []) 0 = IntKind.i64.wrap (n - ix (c.getD (c.length - 1 - i) []) 0) ∧ ix ((crestR n c).getD i []) 1 = ix (c.getD (c.length - 1 - i) []) 1 := by
 have hne : c.isEmpty = false := by cases c <;> first | (simp at hi; done) | rfl
 rw [crestR_ne hne]
 exact ⟨rev_get (can := can2) (U := crestU n) 0 (fun x => rfl) hi, rev_get (can := can2) (U := crestU n) 1 (fun x => rfl) hi⟩
theorem juncR_length {n : Int} {c : List (List D)} : (juncR n c).length = c.length := by
 unfold juncR
 cases c with
 | nil => rfl
 | cons x c => rw [if_neg (by simp), updF_length, revR_length]
theorem junc_get {n : Int} {c : List (List D)} {i : Nat} (hi : i < c.length) : ix ((juncR n c).getD i []) 0 = IntKind.i64.wrap (n - ix (c.getD (c.length - 1 - i) []) 0) ∧ ix ((juncR n c).getD i []) 1 = ix (c.getD (c.length - 1 - i) []) 1 ∧
    ix ((juncR n c).getD i []) 2 = IntKind.i64.wrap (IntKind.i64.wrap (ix (c.getD (c.length - 1 - i) []) 1 + 1) - ix (c.getD (c.length - 1 - i) []) 2) := by
 have hne : c.isEmpty = false := by cases c <;> first | (simp at hi; done) | rfl
 rw [juncR_ne hne]
 exact ⟨rev_get (can := can3) (U := juncU n) 0 (fun x => rfl) hi, rev_get (can := can3) (U := juncU n) 1 (fun x => rfl) hi, rev_get (can := can3) (U := juncU n) 2 (fun x => rfl) hi⟩
theorem rise_back {n : Int} {c o : List (List D)} (hn : 0 ≤ n ∧ n ≤ 100000) (hr : ∀ k, k < c.length → riseAt c k = true ∧ 0 ≤ ix (c.getD k []) 0 ∧ ix (c.getD k []) 0 ≤ n)
    (ho : ∀ i, i < c.length → ix (o.getD i []) 0 = IntKind.i64.wrap (n - ix (c.getD (c.length - 1 - i) []) 0)) {i : Nat} (hi : i < c.length) : riseAt o i = true ∧ 0 ≤ ix (o.getD i []) 0 ∧ ix (o.getD i []) 0 ≤ n := by
 have h1 := hr (c.length - 1 - i) (by omega)
 have e1 := ho i hi
 rw [wrap_id (by omega) (by omega)] at e1
 refine ⟨?_, by omega, by omega⟩
 unfold riseAt
 simp only [Bool.or_eq_true, decide_eq_true_eq]
 by_cases h0 : i = 0
 ·exact .inl h0
 ·right
  have h2 := hr (c.length - 1 - (i - 1)) (by omega)
  have e2 := ho (i - 1) (by omega)
  rw [wrap_id (by omega) (by omega)] at e2
  have h3 := h2.1
  unfold riseAt at h3
  simp only [Bool.or_eq_true, decide_eq_true_eq] at h3
  have h4 := h3.resolve_left (by omega)
  rw [show c.length - 1 - (i - 1) - 1 = c.length - 1 - i by omega] at h4
  omega
theorem back_ok {p c j : List (List D)} (h : roadOk p c j = true) : roadOk (turnR p) (crestR (lenR p) c) (juncR (lenR p) j) = true := by
 obtain ⟨-, -, -, hL, hne⟩ := road_of h
 have hp : 1 ≤ p.length := by cases p <;> simp_all
 unfold roadOk sizesOk at h ⊢
 rw [turnR_length, crestR_length, juncR_length, len_turn hp]
 simp only [Bool.and_eq_true, decide_eq_true_eq, allFrom_iff] at h ⊢
 obtain ⟨⟨⟨⟨h1, h2⟩, h3⟩, h4⟩, h5⟩ := h
 have hlen : 0 ≤ lenR p := (lenFrom_bound (l := p) p.length 0 fun y a b => h2 y (Nat.zero_le _) (by omega)).1
 refine ⟨⟨⟨⟨h1, fun i _ hi => piece_turn (by omega) (h2 _ (Nat.zero_le _) (by omega))⟩, h3⟩, fun i _ hi => ?_⟩, fun i _ hi => ?_⟩
 ·have hi : i < c.length := by omega
  have hr : ∀ k, k < c.length → riseAt c k = true ∧ 0 ≤ ix (c.getD k []) 0 ∧ ix (c.getD k []) 0 ≤ lenR p := fun k hk => by
   have := h4 k (Nat.zero_le _) (by omega)
   unfold crestAt at this
   simp only [Bool.and_eq_true, Lite.within_iff] at this
   exact ⟨this.2, this.1.1.1, this.1.1.2⟩
  have h6 := rise_back ⟨hlen, hL⟩ hr (fun i hi => (crest_get hi).1) hi
  have h7 := h4 (c.length - 1 - i) (Nat.zero_le _) (by omega)
  unfold crestAt at h7 ⊢
  simp only [Bool.and_eq_true, Lite.within_iff] at h7 ⊢
  rw [(crest_get (n := lenR p) hi).2]
  exact ⟨⟨⟨h6.2.1, h6.2.2⟩, h7.1.2⟩, h6.1⟩
 ·have hi : i < j.length := by omega
  have hr : ∀ k, k < j.length → riseAt j k = true ∧ 0 ≤ ix (j.getD k []) 0 ∧ ix (j.getD k []) 0 ≤ lenR p := fun k hk => by
   have := h5 k (Nat.zero_le _) (by omega)
   unfold juncAt at this
   simp only [Bool.and_eq_true, Lite.within_iff] at this
   exact ⟨this.2, this.1.1.1.1, this.1.1.1.2⟩
  have h6 := rise_back ⟨hlen, hL⟩ hr (fun i hi => (junc_get hi).1) hi
  have h7 := h5 (j.length - 1 - i) (Nat.zero_le _) (by omega)
  obtain ⟨-, g1, g2⟩ := junc_get (n := lenR p) hi
  unfold juncAt at h7 ⊢
  simp only [Bool.and_eq_true, Lite.within_iff] at h7 ⊢
  obtain ⟨⟨⟨k1, k2⟩, k3⟩, k4⟩ := h7
  rw [g1, g2, wrap_id (x := ix (j.getD (j.length - 1 - i) []) 1 + 1) (by omega) (by omega), wrap_id (by omega) (by omega)]
  exact ⟨⟨⟨⟨h6.2.1, h6.2.2⟩, k2⟩, by omega, by omega⟩, h6.1⟩
theorem metsT_flat {hi lo : Int} {r u r' u' : List (List D)} : ∀ (k i : Nat) (p : List (List D)), i + k = p.length → metsT hi r u lo r' u' p i k = ((p.drop i).map fun x => List.replicate (ix x 0).toNat (cellT hi r u lo r' u' x)).flatten
 | 0, i, p, h => by rw [List.drop_eq_nil_of_le (by omega)]; rfl
 | k + 1, i, p, h => by
   have hi : i < p.length := by omega
   rw [metsT, metsT_flat k (i + 1) p (by omega), List.drop_eq_getElem_cons hi, List.map_cons, List.flatten_cons, List.getD_eq_getElem?_getD, List.getElem?_eq_getElem hi, Option.getD_some]
theorem mets_flat (lo hi : Int) (r u p : List (List D)) : mets lo hi r u p = (p.map fun x => List.replicate (ix x 0).toNat (cellT hi r u lo r u x)).flatten := metsT_flat _ _ p (by omega)
theorem cell_turn {hi lo : Int} {r u : List (List D)} {x : List D} (hb : -1 ≤ ix x 1 ∧ ix x 1 ≤ 1) : cellT hi r u lo r u (turnU x) = cellT hi r u lo r u x := by
 have e1 : ix (turnU x) 1 = - ix x 1 := by
  show IntKind.i64.wrap (0 - ix x 1) = _
  rw [wrap_id (by omega) (by omega)]
  omega
 have e2 : ix (turnU x) 2 = ix x 2 := rfl
 have e4 : ix (turnU x) 4 = ix x 4 := rfl
 have hz : (- ix x 1 = 0) ↔ ix x 1 = 0 := by omega
 unfold cellT quickV slowV slowL rowHi rowLo
 rw [e1, e2, e4]
 by_cases h0 : ix x 1 = 0
 ·rw [if_pos h0, if_pos (hz.2 h0), if_pos h0, if_pos (hz.2 h0)]
 ·rw [if_neg h0, if_neg (fun h => h0 (hz.1 h)), if_neg h0, if_neg (fun h => h0 (hz.1 h))]
theorem map_unl {f : List D → List (List D)} {L M : List (List D)} (h : (L.map fun x => [D.l (f x)]) = M.map fun x => [D.l (f x)]) : L.map f = M.map f := by
 have := congrArg (List.map fun x => lx x 0) h
 simpa [Function.comp_def, lx, D.L] using this
theorem mets_turn {lo hi : Int} {r u p : List (List D)} (hp : 1 ≤ p.length) (hok : ∀ k, k < p.length → pieceAt p k = true) : mets lo hi r u (turnR p) = (mets lo hi r u p).reverse := by
 rw [mets_flat, mets_flat]
 have h := rev_map (can := can5) (U := turnU) (f := fun x => [.l (List.replicate (ix x 0).toNat (cellT hi r u lo r u x))]) (l := p) (fun x => rfl) hp
 have h2 : (p.map fun x => [D.l (List.replicate (ix (turnU x) 0).toNat (cellT hi r u lo r u (turnU x)))]).reverse = p.reverse.map fun x => [D.l (List.replicate (ix x 0).toNat (cellT hi r u lo r u x))] := by
  rw [← List.map_reverse]
  refine List.map_congr_left fun x hx => ?_
  obtain ⟨k, hk, rfl⟩ := List.getElem_of_mem (List.mem_reverse.1 hx)
  have := hok k hk
  unfold pieceAt pieceP at this
  simp only [Bool.and_eq_true, Lite.within_iff] at this
  rw [List.getD_eq_getElem?_getD, List.getElem?_eq_getElem hk, Option.getD_some] at this
  rw [cell_turn this.1.1.1.2]
  rfl
 rw [h2] at h
 rw [show turnR p = updF turnU 0 p.length (revR can5 p) from rfl, map_unl h, List.map_reverse, List.reverse_flatten]
 congr 1
 rw [List.map_map]
 congr 1
 refine List.map_congr_left fun x _ => ?_
 simp
theorem sumI_rev (k : Nat) (L : List (List D)) : sumI k L.reverse = sumI k L := by
 unfold sumI
 rw [List.map_reverse, sum_reverse]
theorem sumI_split (k : Nat) (L : List (List D)) (q : Nat) : sumI k (L.drop q) = sumI k L - sumI k (L.take q) := by
 have := sumI_append k (L.take q) (L.drop q)
 rw [List.take_append_drop] at this
 omega
theorem sum_back {lo hi : Int} {r u p : List (List D)} (hm : manyP p) (hp : 1 ≤ p.length) {x : Int} (hx : 0 ≤ x) (hl : x ≤ lenR p) : sumAtM 1 lo hi r u (turnR p) (lenR p - x) = sumAtM 1 lo hi r u p (lenR p) - sumAtM 1 lo hi r u p x := by
 have hok : ∀ k, k < p.length → pieceAt p k = true := fun k hk => allFrom_iff.1 hm.2.2 k (Nat.zero_le _) (by omega)
 have e := mets_turn (lo := lo) (hi := hi) (r := r) (u := u) hp hok
 have hL := mets_len (lo := lo) (hi := hi) (r := r) (u := u) hm
 have g : ∀ (q : List (List D)) (y : Nat), y ≤ (mets lo hi r u q).length → ix ((sumsM lo hi r u q).getD y []) 1 = sumI 1 ((mets lo hi r u q).take y) := fun q y hy => by
  rw [sums_get hy]
  rfl
 unfold sumAtM
 rw [g _ _ (by rw [e, List.length_reverse]; omega), g _ _ (by omega), g _ _ (by omega), e]
 rw [show (lenR p).toNat = (mets lo hi r u p).length by omega, List.take_length, List.take_reverse, sumI_rev, sumI_split]
 rw [show (mets lo hi r u p).length - (lenR p - x).toNat = x.toNat by omega]
def s6 : Sig := ⟨[.agg [.k (.ro [.int .i64, .int .i64, .int .i64, .int .i64, .int .i64]), .k (.ro [.int .i64, .int .i64]), .k (.ro [.int .i64, .int .i64, .int .i64])], .agg [.k (.int .i64), .k (.int .i64), .k (.ro [.int .i64, .int .i64, .int .i64]), .k (.ro [.int .i64])], .k (.int .i64)], [(.k .bool, [])]⟩
def l6_10 : LSig := mkLS [2, 3, 4, 7, 9, 10, 11, 12] [(252, [(2, .k (.int .i64)), (3, .ptr 0 3 0 0), (4, .ptr 1 4 0 0), (7, .ptr 2 3 0 0), (9, .k (.int .i64)), (10, .ptr 3 2 0 0), (11, .k (.int .i64)), (12, .k (.int .i64))], [.box [.k (.ro [.int .i64, .int .i64, .int .i64, .int .i64, .int .i64]), .k (.ro [.int .i64, .int .i64]), .k (.ro [.int .i64, .int .i64, .int .i64])], .box [.k (.int .i64), .k (.int .i64), .k (.ro [.int .i64, .int .i64, .int .i64]), .k (.ro [.int .i64])], .box [.k (.ro [.int .i64, .int .i64, .int .i64, .int .i64, .int .i64]), .k (.ro [.int .i64, .int .i64]), .k (.ro [.int .i64, .int .i64, .int .i64])], .box [.k (.int .i64), .nils]]), (252, [(2, .k (.int .i64)), (3, .ptr 0 3 0 0), (4, .ptr 1 4 0 0), (7, .ptr 2 3 0 0), (9, .k (.int .i64)), (10, .ptr 3 2 0 0), (11, .k (.int .i64)), (12, .k (.int .i64))], [.box [.k (.ro [.int .i64, .int .i64, .int .i64, .int .i64, .int .i64]), .k (.ro [.int .i64, .int .i64]), .k (.ro [.int .i64, .int .i64, .int .i64])], .box [.k (.int .i64), .k (.int .i64), .k (.ro [.int .i64, .int .i64, .int .i64]), .k (.ro [.int .i64])], .box [.k (.ro [.int .i64, .int .i64, .int .i64, .int .i64, .int .i64]), .k (.ro [.int .i64, .int .i64]), .k (.ro [.int .i64, .int .i64, .int .i64])], .box [.k (.int .i64), .sl 4 4], .row [.int .i64, .int .i64, .int .i64, .ro [.int .i64, .int .i64]]])] [(.ret, [6], [(252, [(6, .k .bool)], [])]), (.exit 0, [2, 3, 4, 7, 9, 10], [(252, [(2, .k (.int .i64)), (3, .ptr 0 3 0 0), (4, .ptr 1 4 0 0), (7, .ptr 2 3 0 0), (9, .k (.int .i64)), (10, .ptr 3 2 0 0)], [.box [.k (.ro [.int .i64, .int .i64, .int .i64, .int .i64, .int .i64]), .k (.ro [.int .i64, .int .i64]), .k (.ro [.int .i64, .int .i64, .int .i64])], .box [.k (.int .i64), .k (.int .i64), .k (.ro [.int .i64, .int .i64, .int .i64]), .k (.ro [.int .i64])], .box [.k (.ro [.int .i64, .int .i64, .int .i64, .int .i64, .int .i64]), .k (.ro [.int .i64, .int .i64]), .k (.ro [.int .i64, .int .i64, .int .i64])], .box [.k (.int .i64), .nils]]), (252, [(2, .k (.int .i64)), (3, .ptr 0 3 0 0), (4, .ptr 1 4 0 0), (7, .ptr 2 3 0 0), (9, .k (.int .i64)), (10, .ptr 3 2 0 0)], [.box [.k (.ro [.int .i64, .int .i64, .int .i64, .int .i64, .int .i64]), .k (.ro [.int .i64, .int .i64]), .k (.ro [.int .i64, .int .i64, .int .i64])], .box [.k (.int .i64), .k (.int .i64), .k (.ro [.int .i64, .int .i64, .int .i64]), .k (.ro [.int .i64])], .box [.k (.ro [.int .i64, .int .i64, .int .i64, .int .i64, .int .i64]), .k (.ro [.int .i64, .int .i64]), .k (.ro [.int .i64, .int .i64, .int .i64])], .box [.k (.int .i64), .sl 4 4], .row [.int .i64, .int .i64, .int .i64, .ro [.int .i64, .int .i64]]])])]
def l6_26 : LSig := mkLS [2, 3, 4, 7, 9, 11, 17, 19, 21] [(252, [(2, .k (.int .i64)), (3, .ptr 0 3 0 0), (4, .ptr 1 4 0 0), (7, .ptr 2 3 0 0), (9, .k (.int .i64)), (11, .k (.int .i64)), (17, .k (.ro [.int .i64])), (19, .k (.ro [.int .i64])), (21, .k (.int .i64))], [.box [.k (.ro [.int .i64, .int .i64, .int .i64, .int .i64, .int .i64]), .k (.ro [.int .i64, .int .i64]), .k (.ro [.int .i64, .int .i64, .int .i64])], .box [.k (.int .i64), .k (.int .i64), .k (.ro [.int .i64, .int .i64, .int .i64]), .k (.ro [.int .i64])], .box [.k (.ro [.int .i64, .int .i64, .int .i64, .int .i64, .int .i64]), .k (.ro [.int .i64, .int .i64]), .k (.ro [.int .i64, .int .i64, .int .i64])]])] [(.ret, [6], [(252, [(6, .k .bool)], [])]), (.exit 2, [], [(252, [], [])])]
end Go.Proofs.Ytgoedfonmocafaa
namespace Go.Proofs.Ytgoedfonmocafaa.Rs
open Go.Lite
set_option maxRecDepth 100000
theorem hC : ∀ t Y, C.ty t = some Y → tyOf C.P t = some Y := by
 intro t Y h
 dsimp only [C] at h ⊢
 exact h
theorem fuelC : C.fuel = 18446744073709551616 := by kernel_rfl
theorem big_eq : big = 4611686018427387904 := rfl
theorem max_if (a b : Int) : (if b > a then b else a) = max a b := by
 rw [Int.max_def]
 by_cases h : b > a
 ·rw [if_pos h, if_pos (by omega)]
 ·rw [if_neg h]
  by_cases h2 : a ≤ b
  ·rw [if_pos h2]; omega
  ·rw [if_neg h2]
theorem within_dec {x a b : Int} : Lite.within x a b = decide (a ≤ x ∧ x ≤ b) := by simp [Lite.within]
section
variable {α : Type} {p : Nat → Bool} {i len : Nat} {rt rf r : α}
theorem all_step (h : (T.ite (allFrom p i (len - i)) (.leaf rt) (.leaf rf)).run = some r) (hlt : i < len) : (p i = false → some rf = some r) ∧ (p i = true → (T.ite (allFrom p (i + 1) (len - (i + 1))) (.leaf rt) (.leaf rf)).run = some r) := by
 rw [show len - i = (len - (i + 1)) + 1 by omega] at h
 simp only [allFrom] at h
 refine ⟨fun hp => ?_, fun hp => ?_⟩
 ·rw [hp, Bool.false_and] at h; exact h
 ·rw [hp, Bool.true_and] at h; exact h
theorem all_end (h : (T.ite (allFrom p i (len - i)) (.leaf rt) (.leaf rf)).run = some r) (hge : ¬ i < len) : some rt = some r := by
 rw [show len - i = 0 by omega] at h
 exact h
end
section
variable {p : Nat → Bool} {i len : Nat} {ro r : Ex × List D}
end
noncomputable section
def rg (R : List (List D)) (j : Nat) : Int := ix (R.getD j []) 0
def rs (R : List (List D)) (j : Nat) (v : Int) : List (List D) := R.set j [.i v]
end
theorem len_rs (R : List (List D)) (j : Nat) (v : Int) : (rs R j v).length = R.length := by simp [rs]
theorem rg_rs {R : List (List D)} {j : Nat} (hj : j < R.length) (v : Int) (i : Nat) : rg (rs R j v) i = if i = j then v else rg R i := by
 unfold rg rs
 simp only [List.getD_eq_getElem?_getD, List.getElem?_set]
 by_cases e : i = j
 ·subst e; simp [hj, ix, D.I]
 ·rw [if_neg (fun h => e h.symm), if_neg e]
theorem rg_ge {R : List (List D)} {j : Nat} (hj : R.length ≤ j) : rg R j = 0 := by
 unfold rg
 rw [List.getD_eq_getElem?_getD, List.getElem?_eq_none hj]
 rfl
theorem rg_def (R : List (List D)) (j : Nat) : ((R.getD j []).getD 0 default).I = rg R j := rfl
theorem rs_def (R : List (List D)) (j : Nat) (v : Int) : R.set j [.i v] = rs R j v := rfl
theorem rg_rep {n j : Nat} {v : Int} (hj : j < n) : rg (List.replicate n [.i v]) j = v := by
 unfold rg
 rw [List.getD_eq_getElem?_getD, List.getElem?_replicate, if_pos hj]
 rfl
theorem upd2 (c : List D) (x y : D) : updC c [x, y] 0 0 (List.length [K.int .i64, K.int .i64]) = [x, y] := by simp [updC]
theorem least_of {P : Nat → Prop} (h : ∃ f, P f) : ∃ m, P m ∧ ∀ k, k < m → ¬ P k := by
 obtain ⟨f, hf⟩ := h
 induction f using Nat.strongRecOn with
 | _ f ih =>
   by_cases hs : ∃ k, k < f ∧ P k
   ·obtain ⟨k, hk, hp⟩ := hs
    exact ih k hk hp
   ·exact ⟨f, hf, fun k hk hp => hs ⟨k, hk, hp⟩⟩
def s83 : Sig := ⟨[.k (.int .i64), .k (.int .i64), .k (.int .i64)], [(.k .bool, [])]⟩
def s87 : Sig := ⟨[.agg [.k (.int .i64), .k (.int .i64), .k (.int .i64), .k (.ro [.int .i64, .int .i64])], .k (.int .i64)], [(.k (.int .i64), [])]⟩
def l87_2 : LSig := mkLS [1, 2, 8, 9, 10] [(31, [(1, .k (.int .i64)), (2, .ptr 0 4 0 0), (8, .k (.ro [.int .i64, .int .i64])), (9, .k (.int .i64)), (10, .k (.int .i64))], [.box [.k (.int .i64), .k (.int .i64), .k (.int .i64), .k (.ro [.int .i64, .int .i64])]])] [(.exit 0, [1], [(31, [(1, .k (.int .i64))], [])])]
def s168 : Sig := ⟨[.k (.ro [.int .i64, .int .i64])], [(.k (.int .i64), [])]⟩
def s169 : Sig := ⟨[.k (.ro [.int .i64, .int .i64]), .k (.int .i64), .k (.int .i64)], [(.k .bool, [])]⟩
def s171 : SigW := ⟨[.sl 0 2, .k (.int .i64), .k (.int .i64)], [.row [.int .i64, .int .i64]], [(.tup [], [.row [.int .i64, .int .i64]])]⟩
def s176 : SigW := ⟨[.ptr 0 1 0 0], [.box [.sl 1 2], .row [.int .i64, .int .i64]], [(.ifc 169 (.agg [.k (.int .i64), .k (.int .i64)]), [.box [.sl 1 2], .row [.int .i64, .int .i64]])]⟩
def s170 : SigW := ⟨[.ptr 0 1 0 0, .ifc 169 (.agg [.k (.int .i64), .k (.int .i64)])], [.box [.sl 1 2], .row [.int .i64, .int .i64]], [(.tup [], [.box [.sl 2 2], .none, .row [.int .i64, .int .i64]])]⟩
def s145 : SigW := ⟨[.ifc 245 (.ptr 0 1 0 0), .k (.int .i64)], [.box [.sl 1 2], .row [.int .i64, .int .i64]], [(.tup [], [.box [.sl 1 2], .row [.int .i64, .int .i64]])]⟩
def l145_0 : LSig := mkLS [0, 1] [(23, [(0, .ifc 245 (.ptr 0 1 0 0)), (1, .k (.int .i64))], [.box [.sl 1 2], .row [.int .i64, .int .i64]])] [(.exit 0, [], [(23, [], [.box [.sl 1 2], .row [.int .i64, .int .i64]])])]
def s174 : SigW := ⟨[.ifc 245 (.ptr 0 1 0 0), .k (.int .i64), .k (.int .i64)], [.box [.sl 1 2], .row [.int .i64, .int .i64]], [(.k .bool, [.box [.sl 1 2], .row [.int .i64, .int .i64]])]⟩
def l174_2 : LSig := mkLS [0, 1, 2, 7] [(48, [(0, .ifc 245 (.ptr 0 1 0 0)), (1, .k (.int .i64)), (2, .k (.int .i64)), (7, .k (.int .i64))], [.box [.sl 1 2], .row [.int .i64, .int .i64]])] [(.exit 0, [1, 7], [(48, [(1, .k (.int .i64)), (7, .k (.int .i64))], [.box [.sl 1 2], .row [.int .i64, .int .i64]])])]
def s141 : SigW := ⟨[.ifc 245 (.ptr 0 1 0 0), .ifc 169 (.agg [.k (.int .i64), .k (.int .i64)])], [.box [.sl 1 2], .row [.int .i64, .int .i64]], [(.tup [], [.box [.sl 2 2], .none, .row [.int .i64, .int .i64]])]⟩
def s173 : SigW := ⟨[.ifc 245 (.ptr 0 1 0 0)], [.box [.sl 1 2], .row [.int .i64, .int .i64]], [(.ifc 169 (.agg [.k (.int .i64), .k (.int .i64)]), [.box [.sl 1 2], .row [.int .i64, .int .i64]])]⟩
def s172 : SigW := ⟨[.ptr 0 1 0 0], [.box [.sl 1 2], .row [.int .i64, .int .i64]], [(.agg [.k (.int .i64), .k (.int .i64)], [.box [.sl 1 2], .row [.int .i64, .int .i64]])]⟩
def s120 : SigW := ⟨[.k (.int .i64), .k (.int .i64), .eptr [.k (.int .i64), .k (.ro [.int .i64, .int .i64, .int .i64, .ro [.int .i64, .int .i64]])]], [], [(.fn 121 [] [.eptr [.k (.int .i64), .k (.ro [.int .i64, .int .i64, .int .i64, .ro [.int .i64, .int .i64]])], .ptr 0 1 0 0, .ptr 1 1 0 0], [.box [.k (.int .i64)], .box [.k (.int .i64)]])]⟩
def s121 : SigI := ⟨[.yl, .eptr [.k (.int .i64), .k (.ro [.int .i64, .int .i64, .int .i64, .ro [.int .i64, .int .i64]])], .ptr 0 1 0 0, .ptr 1 1 0 0], [.box [.k (.int .i64)], .box [.k (.int .i64)]]⟩
def y121 : YS := mkY [.agg [.k (.int .i64), .k (.int .i64)]] [] false
def l121_1 : LSig := mkLS [0, 2, 3, 8, 9, 10] [(33, [(0, .yl), (2, .ptr 0 1 0 0), (3, .ptr 1 1 0 0), (8, .k (.ro [.int .i64, .int .i64, .int .i64, .ro [.int .i64, .int .i64]])), (9, .k (.int .i64)), (10, .k (.int .i64))], [.box [.k (.int .i64)], .box [.k (.int .i64)]])] [(.ret, [], [(33, [], [.box [.k (.int .i64)], .box [.k (.int .i64)]])]), (.exit 0, [], [(33, [], [.box [.k (.int .i64)], .box [.k (.int .i64)]])])]
def s119 : Sig := ⟨[.k (.int .i64), .agg [.k (.int .i64), .k (.int .i64)], .fn 120 [] [.eptr [.k (.int .i64), .k (.ro [.int .i64, .int .i64, .int .i64, .ro [.int .i64, .int .i64]])]]], [(.sl 0 1, [.row [.int .i64]])]⟩
def h119_14 : List Shp := [mkShp (72, [(2, .fn 120 [] [.eptr [.k (.int .i64), .k (.ro [.int .i64, .int .i64, .int .i64, .ro [.int .i64, .int .i64]])]]), (6, .nils), (7, .ptr 0 1 0 0), (9, .ptr 1 1 0 0), (51, .fn 121 [] [.eptr [.k (.int .i64), .k (.ro [.int .i64, .int .i64, .int .i64, .ro [.int .i64, .int .i64]])], .any, .any])], [.box [.sl 2 1], .box [.ifc 245 (.ptr 3 1 0 0)], .row [.int .i64], .box [.sl 4 2], .row [.int .i64, .int .i64]])]
def l119_3 : LSig := mkLS [2, 4, 6, 7, 15, 16] [(72, [(2, .fn 120 [] [.eptr [.k (.int .i64), .k (.ro [.int .i64, .int .i64, .int .i64, .ro [.int .i64, .int .i64]])]]), (4, .ptr 0 2 0 0), (6, .nils), (7, .ptr 1 1 0 0), (15, .k (.int .i64)), (16, .k (.int .i64))], [.box [.k (.int .i64), .k (.int .i64)], .box [.sl 2 1], .row [.int .i64]])] [(.exit 0, [2, 4, 6, 7], [(72, [(2, .fn 120 [] [.eptr [.k (.int .i64), .k (.ro [.int .i64, .int .i64, .int .i64, .ro [.int .i64, .int .i64]])]]), (4, .ptr 0 2 0 0), (6, .nils), (7, .ptr 1 1 0 0)], [.box [.k (.int .i64), .k (.int .i64)], .box [.sl 2 1], .row [.int .i64]])])]
def l119_9 : LSig := mkLS [2, 6, 7, 9] [(72, [(2, .fn 120 [] [.eptr [.k (.int .i64), .k (.ro [.int .i64, .int .i64, .int .i64, .ro [.int .i64, .int .i64]])]]), (6, .nils), (7, .ptr 0 1 0 0), (9, .ptr 1 1 0 0)], [.box [.sl 2 1], .box [.ifc 245 (.ptr 3 1 0 0)], .row [.int .i64], .box [.sl 4 2], .row [.int .i64, .int .i64]])] [(.exit 2, [7], [(72, [(7, .ptr 0 1 0 0)], [.box [.sl 1 1], .row [.int .i64]])])]
def s84 : Sig := ⟨[.agg [.k (.int .i64), .k (.ro [.int .i64, .int .i64, .int .i64, .ro [.int .i64, .int .i64]])], .k (.int .i64), .k (.int .i64)], [(.sl 0 1, [.row [.int .i64]])]⟩
def l84_3 : LSig := mkLS [7, 17, 18, 19] [(31, [(7, .sl 0 1), (17, .sl 0 1), (18, .k (.int .i64)), (19, .k (.int .i64))], [.row [.int .i64]])] [(.exit 0, [7], [(31, [(7, .sl 0 1)], [.row [.int .i64]])])]
def s81 : Sig := ⟨[.k (.int .i64), .k (.int .i64), .k (.int .i64)], [(.k .bool, [])]⟩
def s82 : Sig := ⟨[.k (.int .i64), .agg [.k (.int .i64), .k (.int .i64), .k (.int .i64), .k (.ro [.int .i64, .int .i64])]], [(.k .bool, [])]⟩
def l82_4 : LSig := mkLS [3, 5] [(83, [(3, .ptr 0 4 0 0), (5, .k (.int .i64))], [.box [.k (.int .i64), .k (.int .i64), .k (.int .i64), .k (.ro [.int .i64, .int .i64])]])] [(.ret, [4], [(83, [(4, .k .bool)], [])]), (.exit 0, [], [(83, [], [])])]
def s38 : Sig := ⟨[.agg [.k (.int .i64), .k (.ro [.int .i64, .int .i64, .int .i64, .ro [.int .i64, .int .i64]])]], [(.k (.int .i64), [])]⟩
def l38_4 : LSig := mkLS [1, 19, 20, 21] [(92, [(1, .ptr 0 2 0 0), (19, .k (.ro [.int .i64, .int .i64, .int .i64, .ro [.int .i64, .int .i64]])), (20, .k (.int .i64)), (21, .k (.int .i64))], [.box [.k (.int .i64), .k (.ro [.int .i64, .int .i64, .int .i64, .ro [.int .i64, .int .i64]])]])] [(.ret, [2], [(92, [(2, .k (.int .i64))], [])]), (.exit 0, [], [(92, [], [])])]
def l38_10 : LSig := mkLS [1, 5, 19, 20, 21, 61, 62, 63] [(92, [(1, .ptr 0 2 0 0), (5, .k (.int .i64)), (19, .k (.ro [.int .i64, .int .i64, .int .i64, .ro [.int .i64, .int .i64]])), (20, .k (.int .i64)), (21, .k (.int .i64)), (61, .k (.ro [.int .i64, .int .i64])), (62, .k (.int .i64)), (63, .k (.int .i64))], [.box [.k (.int .i64), .k (.ro [.int .i64, .int .i64, .int .i64, .ro [.int .i64, .int .i64]])]])] [(.ret, [2], [(92, [(2, .k (.int .i64))], [])]), (.exit 2, [1, 19, 20, 21], [(92, [(1, .ptr 0 2 0 0), (19, .k (.ro [.int .i64, .int .i64, .int .i64, .ro [.int .i64, .int .i64]])), (20, .k (.int .i64)), (21, .k (.int .i64))], [.box [.k (.int .i64), .k (.ro [.int .i64, .int .i64, .int .i64, .ro [.int .i64, .int .i64]])]])])]
def s32 : Sig := ⟨[.agg [.k (.int .i64), .k (.ro [.int .i64, .int .i64, .int .i64, .ro [.int .i64, .int .i64]])]], [(.k .bool, [])]⟩
def l32_4 : LSig := mkLS [1, 3] [(30, [(1, .ptr 0 2 0 0), (3, .k (.int .i64))], [.box [.k (.int .i64), .k (.ro [.int .i64, .int .i64, .int .i64, .ro [.int .i64, .int .i64]])]])] [(.ret, [2], [(30, [(2, .k .bool)], [])]), (.exit 0, [], [(30, [], [])])]
def s33 : Sig := ⟨[.agg [.k (.int .i64), .k (.ro [.int .i64, .int .i64, .int .i64, .ro [.int .i64, .int .i64]])], .k (.int .i64), .k (.int .i64)], [(.tup [.k (.ro [.int .i64]), .k (.int .i64)], [])]⟩
def s3 : Sig := ⟨[.agg [.k (.int .i64), .k (.ro [.int .i64, .int .i64, .int .i64, .ro [.int .i64, .int .i64]])], .k (.int .i64), .k (.int .i64)], [(.k .bool, [])]⟩
noncomputable section
def G83 (ds : List D) : T (List D) := match ds with
 | [n, a, b] => .leaf [.b (within n.I a.I b.I)]
 | _ => .fail
def entF (l : List (List D)) (c : Int) : Nat → Nat → Int → Int
 | _, 0, s => s
 | i, k + 1, s => entF l c (i + 1) k (if s + c > ix (l.getD i []) 0 ∧ s < ix (l.getD i []) 1 then ix (l.getD i []) 1 else s)
def okC (l : List (List D)) : Prop := l.length < big ∧ ∀ j, (-1099511627776 ≤ ix (l.getD j []) 0 ∧ ix (l.getD j []) 0 ≤ 1099511627776) ∧ (-1099511627776 ≤ ix (l.getD j []) 1 ∧ ix (l.getD j []) 1 ≤ 1099511627776)
def okS (s : Int) : Prop := -1152921504606846976 ≤ s ∧ s ≤ 1152921504606846976
def okT (c : Int) : Prop := -1099511627776 ≤ c ∧ c ≤ 1099511627776
def G87 (ds : List D) : T (List D) := match ds with
 | [_, _, c, l, s] => .need (yes (okT c.I ∧ okS s.I ∧ okC l.L)) (.leaf [.i (entF l.L c.I 0 l.L.length s.I)])
 | _ => .fail
def G87_2 (ds : List D) : T (Ex × List D) := match ds with
 | [s, l, m, i, _, _, c, _] => .need (yes (okT c.I ∧ okS s.I ∧ okC l.L ∧ m.I = l.L.length ∧ 0 ≤ i.I ∧ i.I ≤ l.L.length)) (.leaf (.exit 0, [.i (entF l.L c.I i.I.toNat (l.L.length - i.I.toNat) s.I)]))
 | _ => .fail
def atR (l : List (List D)) (i : Nat) : Int := ix (l.getD i []) 1
def row2 (c : List D) : List D := [.i (ix c 0), .i (ix c 1)]
def swapR (l : List (List D)) (i j : Nat) : List (List D) := (l.set i (row2 (l.getD j []))).set j (row2 (l.getD i []))
def upF : Nat → List (List D) → Nat → List (List D)
 | 0, l, _ => l
 | f + 1, l, j => if (j - 1) / 2 = j ∨ ¬ atR l j < atR l ((j - 1) / 2) then l else upF f (swapR l ((j - 1) / 2) j) ((j - 1) / 2)
def kidR (l : List (List D)) (m i : Nat) : Nat := if 2 * i + 2 < m ∧ atR l (2 * i + 2) < atR l (2 * i + 1) then 2 * i + 2 else 2 * i + 1
def downF : Nat → List (List D) → Nat → Nat → List (List D) × Nat
 | 0, l, _, i => (l, i)
 | f + 1, l, m, i => if 2 * i + 1 ≥ m ∨ ¬ atR l (kidR l m i) < atR l i then (l, i) else downF f (swapR l i (kidR l m i)) m (kidR l m i)
def G168 (ds : List D) : T (List D) := match ds with
 | [l] => .leaf [.i l.L.length]
 | _ => .fail
def G169 (ds : List D) : T (List D) := match ds with
 | [l, i, j] => .need (yes ((0 ≤ i.I ∧ i.I < l.L.length) ∧ 0 ≤ j.I ∧ j.I < l.L.length)) (.leaf [.b (decide (atR l.L i.I.toNat < atR l.L j.I.toNat))])
 | _ => .fail
def G171 (ds : List D) : T (List D) := match ds with
 | [n, i, j, l] => .need (yes ((0 ≤ i.I ∧ i.I < (n.I.toNat : Int)) ∧ (0 ≤ j.I ∧ j.I < (n.I.toNat : Int)) ∧ n.I.toNat ≤ l.L.length)) (.leaf [.l (swapR l.L i.I.toNat j.I.toNat)])
 | _ => .fail
def G176 (ds : List D) : T (List D) := match ds with
 | [n, l] => .need (yes (1 ≤ n.I.toNat ∧ n.I.toNat ≤ l.L.length ∧ n.I.toNat < 1099511627776)) (.leaf [.i (ix (l.L.getD (n.I.toNat - 1) []) 0), .i (ix (l.L.getD (n.I.toNat - 1) []) 1), .i ((n.I.toNat - 1 : Nat) : Int), .l l.L])
 | _ => .fail
def G170 (ds : List D) : T (List D) := match ds with
 | [v, t, n, l] => .need (yes (n.I.toNat ≤ l.L.length ∧ n.I.toNat < 1099511627776)) (.leaf [.i ((n.I.toNat + 1 : Nat) : Int), .l (l.L.take n.I.toNat ++ [[.i v.I, .i t.I]])])
 | _ => .fail
def G145 (ds : List D) : T (List D) := match ds with
 | [j, n, l] => .need (yes (0 ≤ j.I ∧ j.I < (n.I.toNat : Int) ∧ n.I.toNat ≤ l.L.length ∧ n.I.toNat < 2199023255552)) (.leaf [.i (n.I.toNat : Int), .l (upF (j.I.toNat + 1) l.L j.I.toNat)])
 | _ => .fail
def G145_0 (ds : List D) : T (Ex × List D) := match ds with
 | [j, n, l] => .need (yes (0 ≤ j.I ∧ j.I < (n.I.toNat : Int) ∧ n.I.toNat ≤ l.L.length ∧ n.I.toNat < 2199023255552)) (.leaf (.exit 0, [.i (n.I.toNat : Int), .l (upF (j.I.toNat + 1) l.L j.I.toNat)]))
 | _ => .fail
def G174 (ds : List D) : T (List D) := match ds with
 | [s, m, n, l] => .need (yes (0 ≤ s.I ∧ s.I ≤ m.I ∧ m.I ≤ (n.I.toNat : Int) ∧ n.I.toNat ≤ l.L.length ∧ n.I.toNat < 2199023255552))
     (.leaf [.b (decide (((downF (m.I.toNat + 1) l.L m.I.toNat s.I.toNat).2 : Int) > s.I)), .i (n.I.toNat : Int), .l (downF (m.I.toNat + 1) l.L m.I.toNat s.I.toNat).1])
 | _ => .fail
def G174_2 (ds : List D) : T (Ex × List D) := match ds with
 | [s, m, i, n, l] => .need (yes (0 ≤ i.I ∧ i.I ≤ m.I ∧ m.I ≤ (n.I.toNat : Int) ∧ n.I.toNat ≤ l.L.length ∧ n.I.toNat < 2199023255552))
     (.leaf (.exit 0, [.i s.I, .i ((downF (m.I.toNat + 1) l.L m.I.toNat i.I.toNat).2 : Int), .i (n.I.toNat : Int), .l (downF (m.I.toNat + 1) l.L m.I.toNat i.I.toNat).1]))
 | _ => .fail
def pushR (l : List (List D)) (n : Nat) (v t : Int) : List (List D) := upF (n + 1) (l.take n ++ [[.i v, .i t]]) n
def popR (l : List (List D)) (n : Nat) : List (List D) := (downF n (swapR l 0 (n - 1)) (n - 1) 0).1
def G141 (ds : List D) : T (List D) := match ds with
 | [v, t, n, l] => .need (yes (n.I.toNat ≤ l.L.length ∧ n.I.toNat < 1099511627776)) (.leaf [.i ((n.I.toNat + 1 : Nat) : Int), .l (pushR l.L n.I.toNat v.I t.I)])
 | _ => .fail
def G173 (ds : List D) : T (List D) := match ds with
 | [n, l] => .need (yes (1 ≤ n.I.toNat ∧ n.I.toNat ≤ l.L.length ∧ n.I.toNat < 1099511627776))
     (.leaf [.i (ix ((popR l.L n.I.toNat).getD (n.I.toNat - 1) []) 0), .i (ix ((popR l.L n.I.toNat).getD (n.I.toNat - 1) []) 1), .i ((n.I.toNat - 1 : Nat) : Int), .l (popR l.L n.I.toNat)])
 | _ => .fail
def G172 : List D → T (List D) := G173
def okR (r : List (List D)) : Prop := r.length < 1099511627776 ∧ ∀ i, i < r.length → okT (ix (r.getD i []) 2) ∧ okC (lx (r.getD i []) 3)
def entW (c : List D) (t : Int) : Int := entF (lx c 3) (ix c 2) 0 (lx c 3).length t
def nextF (r : List (List D)) (v t : Int) : Nat → Nat → List (List D)
 | _, 0 => []
 | i, k + 1 => if ix (r.getD i []) 0 = v then [.i (ix (r.getD i []) 1), .i (entW (r.getD i []) t + ix (r.getD i []) 2)] :: nextF r v t (i + 1) k else nextF r v t (i + 1) k
def G120 (ds : List D) : T (List D) := match ds with
 | [v, t, n, r] => .leaf [.i n.I, .l r.L, .i v.I, .i t.I]
 | _ => .fail
def G121 (ds : List D) : T (List (List D)) := match ds with
 | [_, r, v, t] => .need (yes (okR r.L ∧ okS t.I)) (.leaf (nextF r.L v.I t.I 0 r.L.length))
 | _ => .fail
def G121_1 (q : Nat) (ds : List D) : T (Ex × List D) := match ds with
 | [g, r, m, i, v, t] => .need (yes (okR r.L ∧ okS t.I ∧ m.I = r.L.length ∧ 0 ≤ i.I ∧ i.I ≤ r.L.length ∧ g.L.length ≤ q))
     (.ite (decide (q < g.L.length + (nextF r.L v.I t.I i.I.toNat (r.L.length - i.I.toNat)).length))
      (.leaf (.ret, [.l (g.L ++ (nextF r.L v.I t.I i.I.toNat (r.L.length - i.I.toNat)).take (q + 1 - g.L.length)), .i v.I, .i t.I]))
      (.leaf (.exit 0, [.l (g.L ++ nextF r.L v.I t.I i.I.toNat (r.L.length - i.I.toNat)), .i v.I, .i t.I])))
 | _ => .fail
end
noncomputable section
structure Sr where
 o : List (List D)
 k : Nat
 q : List (List D)
def relF : List (List D) → Sr → Sr
 | [], s => s
 | e :: es, s => if ix e 1 < rg s.o (ix e 0).toNat then relF es ⟨rs s.o (ix e 0).toNat (ix e 1), s.k + 1, pushR s.q s.k (ix e 0) (ix e 1)⟩ else relF es s
def takeV (s : Sr) : Int := ix ((popR s.q s.k).getD (s.k - 1) []) 0
def takeT (s : Sr) : Int := ix ((popR s.q s.k).getD (s.k - 1) []) 1
def stepS (r : List (List D)) (s : Sr) : Sr :=
 if takeT s > rg s.o (takeV s).toNat then ⟨s.o, s.k - 1, popR s.q s.k⟩ else relF (nextF r (takeV s) (takeT s) 0 r.length) ⟨s.o, s.k - 1, popR s.q s.k⟩
def needS (n : Nat) (r : List (List D)) (s : Sr) : Prop := s.k ≤ s.q.length ∧ s.k < 274877906944 ∧ n ≤ s.o.length ∧ (0 ≤ takeV s ∧ takeV s < n) ∧ okS (takeT s) ∧ okR r ∧ r.length < 274877906944 ∧ ∀ i, i < r.length → 0 ≤ ix (r.getD i []) 1 ∧ ix (r.getD i []) 1 < n
def endsS (n : Nat) (r : List (List D)) : Nat → Sr → Prop
 | 0, s => s.k = 0
 | f + 1, s => s.k ≠ 0 ∧ needS n r s ∧ endsS n r f (stepS r s)
def runSr (r : List (List D)) : Nat → Sr → List (List D)
 | 0, s => s.o
 | f + 1, s => runSr r f (stepS r s)
def lenS (n : Nat) (r : List (List D)) (s : Sr) : Nat := Classical.epsilon fun f => endsS n r f s
def resS (n : Nat) (r : List (List D)) (s : Sr) : List (List D) := runSr r (lenS n r s) s
def haltS (n : Nat) (r : List (List D)) (s : Sr) : Prop := ∃ f, f < 9223372036854775808 ∧ endsS n r f s
def mkSr (o k q : D) : Sr := ⟨o.L, k.I.toNat, q.L⟩
def fillF (v : Int) : Nat → Nat → List (List D) → List (List D)
 | _, 0, l => l
 | i, k + 1, l => fillF v (i + 1) k (rs l i v)
def G119_3 (ds : List D) : T (Ex × List D) := match ds with
 | [n, r, m, i, x, y, k, l] => .need (yes (m.I = (k.I.toNat : Int) ∧ k.I.toNat ≤ l.L.length ∧ 0 ≤ i.I ∧ i.I ≤ m.I ∧ m.I < 1099511627776)) (.leaf (.exit 0, [.i n.I, .l r.L, .i x.I, .i y.I, .i (k.I.toNat : Int), .l (fillF 9223372036854775807 i.I.toNat (k.I.toNat - i.I.toNat) l.L)]))
 | _ => .fail
def G119_9 (ds : List D) : T (Ex × List D) := match ds with
 | [_, r, n, o, k, q] => .need (yes (haltS n.I.toNat r.L (mkSr o k q))) (.leaf (.exit 2, [.i (n.I.toNat : Int), .l (resS n.I.toNat r.L (mkSr o k q))]))
 | _ => .fail
def G119_14 (L : List (List D)) (ds : List D) : T (Ex × List D) := match ds with
 | [a, r, a', r', n, o, k, q] => .need (yes (n.I.toNat ≤ o.L.length ∧ k.I.toNat ≤ q.L.length ∧ k.I.toNat + L.length < 549755813888 ∧ ∀ e ∈ L, 0 ≤ ix e 0 ∧ ix e 0 < (n.I.toNat : Int)))
     (.leaf (.normal, [.i a.I, .l r.L, .i a'.I, .l r'.L, .i (n.I.toNat : Int), .l (relF L (mkSr o k q)).o, .i ((relF L (mkSr o k q)).k : Int), .l (relF L (mkSr o k q)).q]))
 | _ => .fail
def startS (n : Int) (v t : Int) : Sr := ⟨rs (List.replicate n.toNat [.i 9223372036854775807]) v.toNat t, 1, [[.i v, .i t]]⟩
def G119 (ds : List D) : T (List D) := match ds with
 | [n, v, t, _, r] => .need (yes (0 ≤ n.I ∧ n.I < 1099511627776 ∧ 0 ≤ v.I ∧ v.I < n.I ∧ haltS n.I.toNat r.L (startS n.I v.I t.I))) (.leaf [.i n.I, .l (resS n.I.toNat r.L (startS n.I v.I t.I))])
 | _ => .fail
def noneF : Nat → Nat → List (List D) → List (List D)
 | _, 0, l => l
 | i, k + 1, l => noneF (i + 1) k (if rg l i = 9223372036854775807 then rs l i (-1) else l)
def G84_3 (ds : List D) : T (Ex × List D) := match ds with
 | [n, n2, m, i, l] => .need (yes (m.I = (n.I.toNat : Int) ∧ n2.I.toNat = n.I.toNat ∧ n.I.toNat ≤ l.L.length ∧ 0 ≤ i.I ∧ i.I ≤ m.I ∧ m.I < 1099511627776)) (.leaf (.exit 0, [.i (n.I.toNat : Int), .l (noneF i.I.toNat (n.I.toNat - i.I.toNat) l.L)]))
 | _ => .fail
def arrF (n : Int) (r : List (List D)) (v t : Int) : List (List D) := noneF 0 n.toNat (resS n.toNat r (startS n v t))
def G84 (ds : List D) : T (List D) := match ds with
 | [n, r, v, t] => .need (yes (0 ≤ n.I ∧ n.I < 1099511627776 ∧ 0 ≤ v.I ∧ v.I < n.I ∧ haltS n.I.toNat r.L (startS n.I v.I t.I))) (.leaf [.i n.I, .l (arrF n.I r.L v.I t.I)])
 | _ => .fail
end
noncomputable section
def clB (l : List (List D)) (i : Nat) : Bool := decide (0 ≤ ix (l.getD i []) 0 ∧ ix (l.getD i []) 0 < ix (l.getD i []) 1 ∧ ix (l.getD i []) 1 ≤ 100000 ∧ (0 < i → ix (l.getD (i - 1) []) 1 < ix (l.getD i []) 0))
def roadH (n : Int) (c : List D) : Bool := decide ((0 ≤ ix c 0 ∧ ix c 0 < n) ∧ (0 ≤ ix c 1 ∧ ix c 1 < n) ∧ ix c 0 ≠ ix c 1 ∧ (1 ≤ ix c 2 ∧ ix c 2 ≤ 10000) ∧ (lx c 3).length ≤ 20)
def roadB (n : Int) (c : List D) : Bool := roadH n c && allFrom (clB (lx c 3)) 0 (lx c 3).length
def netB (n : Int) (r : List (List D)) : Bool := decide ((1 ≤ n ∧ n ≤ 200) ∧ r.length ≤ 1000) && allFrom (fun i => roadB n (r.getD i [])) 0 r.length
def nodeB (n v t : Int) : Bool := decide ((0 ≤ v ∧ v < n) ∧ 0 ≤ t ∧ t ≤ 100000)
def hop1 (c : List D) (a x : List (List D)) : List (List D) :=
 if rg a (ix c 0).toNat < 0 then x
 else if rg x (ix c 1).toNat < 0 ∨ entW c (rg a (ix c 0).toNat) + ix c 2 < rg x (ix c 1).toNat then rs x (ix c 1).toNat (entW c (rg a (ix c 0).toNat) + ix c 2) else x
def hopF (r a : List (List D)) : Nat → Nat → List (List D) → List (List D)
 | _, 0, x => x
 | i, k + 1, x => hopF r a (i + 1) k (hop1 (r.getD i []) a x)
def reachF (r : List (List D)) : Nat → List (List D) → List (List D)
 | 0, a => a
 | k + 1, a => reachF r k (hopF r a 0 r.length a)
def beginF (n v t : Int) : List (List D) := rs (List.replicate n.toNat [.i (-1)]) v.toNat t
def okAt (n : Int) (k : Int) (a : List (List D)) : Prop := (a.length : Int) = n ∧ ∀ v, -1 ≤ rg a v ∧ rg a v ≤ 1099511627776 + 10000 * k
def G81 (ds : List D) : T (List D) := match ds with
 | [n, a, b] => .leaf [.b (within n.I a.I b.I)]
 | _ => .fail
def mkRd (a b c l : D) : List D := [.i a.I, .i b.I, .i c.I, .l l.L]
def G82 (ds : List D) : T (List D) := match ds with
 | [n, a, b, c, l] => .need (yes (1 ≤ n.I ∧ n.I ≤ 200)) (.leaf [.b (roadB n.I (mkRd a b c l))])
 | _ => .fail
def G82_4 (ds : List D) : T (Ex × List D) := match ds with
 | [i, _, _, _, l] => .need (yes (l.L.length ≤ 20 ∧ 0 ≤ i.I ∧ i.I ≤ l.L.length)) (.ite (allFrom (clB l.L) i.I.toNat (l.L.length - i.I.toNat)) (.leaf (.exit 0, [])) (.leaf (.ret, [.b false])))
 | _ => .fail
def G38 (ds : List D) : T (List D) := match ds with
 | [n, r] => .leaf [.i (if netB n.I r.L then 0 else 2)]
 | _ => .fail
def G38_4 (ds : List D) : T (Ex × List D) := match ds with
 | [r, m, i, n, _] => .need (yes ((1 ≤ n.I ∧ n.I ≤ 200) ∧ r.L.length ≤ 1000 ∧ m.I = r.L.length ∧ 0 ≤ i.I ∧ i.I ≤ r.L.length)) (.ite (allFrom (fun j => roadB n.I (r.L.getD j [])) i.I.toNat (r.L.length - i.I.toNat)) (.leaf (.exit 0, [])) (.leaf (.ret, [.i 2])))
 | _ => .fail
def G38_10 (ds : List D) : T (Ex × List D) := match ds with
 | [last, r, m, i, l, m', j, n, r'] => .need (yes (l.L.length ≤ 20 ∧ m'.I = l.L.length ∧ 0 ≤ j.I ∧ j.I ≤ l.L.length ∧ last.I = if j.I = 0 then -1 else ix (l.L.getD (j.I.toNat - 1) []) 1))
     (.ite (allFrom (clB l.L) j.I.toNat (l.L.length - j.I.toNat)) (.leaf (.exit 2, [.l r.L, .i m.I, .i i.I, .i n.I, .l r'.L])) (.leaf (.ret, [.i 2])))
 | _ => .fail
def G32 (ds : List D) : T (List D) := match ds with
 | [n, r] => .leaf [.b (netB n.I r.L)]
 | _ => .fail
def G32_4 (ds : List D) : T (Ex × List D) := match ds with
 | [i, n, r] => .need (yes ((1 ≤ n.I ∧ n.I ≤ 200) ∧ r.L.length ≤ 1000 ∧ 0 ≤ i.I ∧ i.I ≤ r.L.length)) (.ite (allFrom (fun j => roadB n.I (r.L.getD j [])) i.I.toNat (r.L.length - i.I.toNat)) (.leaf (.exit 0, [])) (.leaf (.ret, [.b false])))
 | _ => .fail
def G33 (ds : List D) : T (List D) := match ds with
 | [n, r, v, t] => .ite (netB n.I r.L && nodeB n.I v.I t.I) (.leaf [.l (arrF n.I r.L v.I t.I), .i 0]) (.leaf [.l [], .i 2])
 | _ => .fail
end
end Go.Proofs.Ytgoedfonmocafaa.Rs
namespace Go.Proofs.Ytgoedfonmocafaa
open Go.Lite
noncomputable section
def s32 : Sig := Rs.s32
def G32 : List D → T (List D) := Rs.G32
def s33 : Sig := Rs.s33
def G33 (ds : List D) : T (List D) := match ds with
 | [n, r, v, t] => .need (yes (Rs.netB n.I r.L = true ∧ Rs.nodeB n.I v.I t.I = true)) (.leaf [.l (Rs.arrF n.I r.L v.I t.I), .i 0])
 | _ => .fail
def posP (p : List (List D)) (i : Nat) : Int := lenFrom p 0 i
def secT (lo hi : Int) (r u p : List (List D)) (i : Nat) : Int := (betwV 1 lo hi r u p (posP p i) (posP p (i + 1)) + 999999).tdiv 1000000
def netR (lo hi : Int) (r u p : List (List D)) : Nat → List (List D)
 | 0 => []
 | k + 1 => netR lo hi r u p k ++ [[.i k, .i (k + 1 : Nat), .i (secT lo hi r u p k), .l []], [.i (k + 1 : Nat), .i k, .i (secT lo hi r u p k), .l []]]
def secP (lo hi : Int) (r u p : List (List D)) : Nat → Int
 | 0 => 0
 | k + 1 => secP lo hi r u p k + secT lo hi r u p k
def reaP (lo hi : Int) (r u p c j p' c' j' : List (List D)) (n st : Int) : Prop := paceP lo hi r u p c j ∧ p.length ≤ 20 ∧ n = p.length ∧ (p' = turnR p ∧ c' = crestR (lenR p) c ∧ j' = juncR (lenR p) j) ∧ 0 ≤ st ∧ st ≤ 1000
def G6_10 (ds : List D) : T (Ex × List D) := match ds with
 | [z, st, n, pos, i, p, c, j, lo, hi, r, u, p', c', j', m] => .need (yes (z.I = 0 ∧ reaP lo.I hi.I r.L u.L p.L c.L j.L p'.L c'.L j'.L n.I st.I ∧ i.I = 0 ∧ pos.I = 0))
     (.leaf (.exit 0, [.i 1, .i st.I, .i n.I, .l p.L, .l c.L, .l j.L, .i lo.I, .i hi.I, .l r.L, .l u.L, .l p'.L, .l c'.L, .l j'.L, .i m.I, .i (2 * p.L.length : Nat), .l (netR lo.I hi.I r.L u.L p.L p.L.length)]))
 | z :: st :: n :: pos :: [i, p, c, j, lo, hi, r, u, p', c', j', m, s, o] => .need (yes (z.I = 1 ∧ reaP lo.I hi.I r.L u.L p.L c.L j.L p'.L c'.L j'.L n.I st.I ∧ 0 ≤ i.I ∧ i.I ≤ p.L.length ∧ pos.I = posP p.L i.I.toNat ∧ s.I = 2 * i.I ∧ o.L = netR lo.I hi.I r.L u.L p.L i.I.toNat))
     (.leaf (.exit 0, [.i 1, .i st.I, .i n.I, .l p.L, .l c.L, .l j.L, .i lo.I, .i hi.I, .l r.L, .l u.L, .l p'.L, .l c'.L, .l j'.L, .i m.I, .i (2 * p.L.length : Nat), .l (netR lo.I hi.I r.L u.L p.L p.L.length)]))
 | _ => .fail
def arrP (lo hi st : Int) (r u p a c : List (List D)) : Prop := a.length = p.length + 1 ∧ c.length = p.length + 1 ∧ (∀ k, k < p.length → 0 ≤ secT lo hi r u p k ∧ secT lo hi r u p k ≤ 10000) ∧ ∀ k, k ≤ p.length → rgI a k = st + secP lo hi r u p k ∧ rgI c k = st + (secP lo hi r u p p.length - secP lo hi r u p k)
def G6_26 (ds : List D) : T (Ex × List D) := match ds with
 | [st, n, pos, a, d, i, p, c, j, lo, hi, r, u, p', c', j'] => .need (yes (reaP lo.I hi.I r.L u.L p.L c.L j.L p'.L c'.L j'.L n.I st.I ∧ 0 ≤ i.I ∧ i.I ≤ p.L.length + 1 ∧ pos.I = posP p.L (min i.I.toNat p.L.length) ∧ arrP lo.I hi.I st.I r.L u.L p.L a.L d.L))
     (.leaf (.exit 2, []))
 | _ => .fail
end
end Go.Proofs.Ytgoedfonmocafaa
namespace Go.Proofs.Ytgoedfonmocafaa.Rs
open Go.Lite
noncomputable def sp83 : SpL := []
noncomputable def lp83 : LpL := []
noncomputable def sw83 : SwL := []
noncomputable def tab83 : Tab := mkTab sp83 lp83 sw83
noncomputable def sp87 : SpL := []
noncomputable def lp87 : LpL := [(2, mkL l87_2 G87_2)]
noncomputable def sw87 : SwL := []
noncomputable def tab87 : Tab := mkTab sp87 lp87 sw87
noncomputable def sp168 : SpL := []
noncomputable def lp168 : LpL := []
noncomputable def sw168 : SwL := []
noncomputable def tab168 : Tab := mkTab sp168 lp168 sw168
noncomputable def sp169 : SpL := []
noncomputable def lp169 : LpL := []
noncomputable def sw169 : SwL := []
noncomputable def tab169 : Tab := mkTab sp169 lp169 sw169
noncomputable def sp171 : SpL := []
noncomputable def lp171 : LpL := []
noncomputable def sw171 : SwL := []
noncomputable def tab171 : Tab := mkTab sp171 lp171 sw171
noncomputable def sp176 : SpL := []
noncomputable def lp176 : LpL := []
noncomputable def sw176 : SwL := []
noncomputable def tab176 : Tab := mkTab sp176 lp176 sw176
noncomputable def sp170 : SpL := []
noncomputable def lp170 : LpL := []
noncomputable def sw170 : SwL := []
noncomputable def tab170 : Tab := mkTab sp170 lp170 sw170
noncomputable def sp145 : SpL := [(169, mkF s169 G169)]
noncomputable def lp145 : LpL := [(0, mkLK 2 l145_0 G145_0)]
noncomputable def sw145 : SwL := [(171, mkFW s171 G171)]
noncomputable def tab145 : Tab := mkTab sp145 lp145 sw145
noncomputable def sp174 : SpL := [(169, mkF s169 G169)]
noncomputable def lp174 : LpL := [(2, mkLK 2 l174_2 G174_2)]
noncomputable def sw174 : SwL := [(171, mkFW s171 G171)]
noncomputable def tab174 : Tab := mkTab sp174 lp174 sw174
noncomputable def sp141 : SpL := [(168, mkF s168 G168)]
noncomputable def lp141 : LpL := []
noncomputable def sw141 : SwL := [(145, mkFW s145 G145), (170, mkFW s170 G170)]
noncomputable def tab141 : Tab := mkTab sp141 lp141 sw141
noncomputable def sp173 : SpL := [(168, mkF s168 G168)]
noncomputable def lp173 : LpL := []
noncomputable def sw173 : SwL := [(174, mkFW s174 G174), (171, mkFW s171 G171), (176, mkFW s176 G176)]
noncomputable def tab173 : Tab := mkTab sp173 lp173 sw173
noncomputable def sp172 : SpL := []
noncomputable def lp172 : LpL := []
noncomputable def sw172 : SwL := [(173, mkFW s173 G173)]
noncomputable def tab172 : Tab := mkTab sp172 lp172 sw172
noncomputable def sp120 : SpL := []
noncomputable def lp120 : LpL := []
noncomputable def sw120 : SwL := []
noncomputable def tab120 : Tab := mkTab sp120 lp120 sw120
noncomputable def sp121 : SpL := [(87, mkF s87 G87)]
noncomputable def lp121 (q : Nat) : LpL := [(1, mkLY 2 l121_1 (G121_1 q))]
noncomputable def sw121 : SwL := []
noncomputable def tab121 (q : Nat) : Tab := mkTabY sp121 (lp121 q) sw121 y121 q
set_option linter.unusedVariables false
set_option maxRecDepth 100000
theorem t83 (a b c : D) : fnT C tab83 83 s83 [a, b, c] =
 T.ite (decide (a.I ≥ b.I)) (T.leaf [D.b (decide (a.I ≤ c.I))]) (T.leaf [D.b false]) := by kernel_rfl
theorem t87 (a b c d e : D) : fnT C tab87 87 s87 [a, b, c, d, e] =
 T.need (yes (okT c.I ∧ okS e.I ∧ okC d.L ∧ (d.L.length : Int) = (d.L.length : Int) ∧ (0 : Int) ≤ (0 : Int) ∧ (0 : Int) ≤ (d.L.length : Int))) (T.leaf [D.i (entF d.L c.I (Int.toNat (0 : Int)) (d.L.length - Int.toNat (0 : Int)) e.I)]) := by kernel_rfl
theorem t87_2 (a b c d e f g h : D) : roundT C tab87 87 (loopOf C.P 87 2) l87_2 [a, b, c, d, e, f, g, h] =
 T.ite (decide (d.I < c.I)) (T.need (decide ((0 : Int) ≤ d.I ∧ d.I < (b.L.length : Int))) (T.ite (decide (IntKind.i64.wrap (a.I + g.I) > D.I (List.getD (List.getD b.L d.I.toNat []) 0 default))) (T.ite (decide (a.I < D.I (List.getD (List.getD b.L d.I.toNat []) (0 + 1) default))) (T.leaf (Rd.again [D.i (D.I (List.getD (List.getD b.L d.I.toNat []) (0 + 1) default)), D.l b.L, D.i c.I, D.i (IntKind.i64.wrap (d.I + (1 : Int))), D.i e.I, D.i f.I, D.i g.I, D.l h.L])) (T.leaf (Rd.again [D.i a.I, D.l b.L, D.i c.I, D.i (IntKind.i64.wrap (d.I + (1 : Int))), D.i e.I, D.i f.I, D.i g.I, D.l h.L]))) (T.leaf (Rd.again [D.i a.I, D.l b.L, D.i c.I, D.i (IntKind.i64.wrap (d.I + (1 : Int))), D.i e.I, D.i f.I, D.i g.I, D.l h.L])))) (T.leaf (Rd.out (Ex.exit 0) [D.i a.I])) := by kernel_rfl
theorem t168 (a : D) : fnT C tab168 168 s168 [a] =
 T.leaf [D.i (a.L.length : Int)] := by kernel_rfl
theorem t169 (a b c : D) : fnT C tab169 169 s169 [a, b, c] =
 T.need (decide ((0 : Int) ≤ b.I ∧ b.I < (a.L.length : Int))) (T.need (decide ((0 : Int) ≤ c.I ∧ c.I < (a.L.length : Int))) (T.leaf [D.b (decide (D.I (List.getD (List.getD a.L b.I.toNat []) (0 + 1) default) < D.I (List.getD (List.getD a.L c.I.toNat []) (0 + 1) default)))])) := by kernel_rfl
theorem t171 (a b c d : D) : fnTW C tab171 171 s171 [a, b, c, d] =
 T.need (decide ((0 : Int) ≤ c.I ∧ c.I < (a.I.toNat : Int))) (T.need (decide (c.I.toNat < d.L.length)) (T.need (decide ((0 : Int) ≤ b.I ∧ b.I < (a.I.toNat : Int))) (T.need (decide (b.I.toNat < d.L.length)) (T.need (decide ((0 : Int) ≤ b.I ∧ b.I < (a.I.toNat : Int))) (T.need (decide (b.I.toNat < d.L.length)) (T.need (decide ((0 : Int) ≤ c.I ∧ c.I < (a.I.toNat : Int))) (T.need (decide (c.I.toNat < List.length (List.set d.L b.I.toNat (updC (List.getD d.L b.I.toNat []) [D.i (D.I (List.getD (List.getD d.L c.I.toNat []) 0 default)), D.i (D.I (List.getD (List.getD d.L c.I.toNat []) (0 + 1) default))] 0 0 (List.length [K.int IntKind.i64, K.int IntKind.i64]))))) (T.leaf [D.l (List.set (List.set d.L b.I.toNat (updC (List.getD d.L b.I.toNat []) [D.i (D.I (List.getD (List.getD d.L c.I.toNat []) 0 default)), D.i (D.I (List.getD (List.getD d.L c.I.toNat []) (0 + 1) default))] 0 0 (List.length [K.int IntKind.i64, K.int IntKind.i64]))) c.I.toNat (updC (List.getD (List.set d.L b.I.toNat (updC (List.getD d.L b.I.toNat []) [D.i (D.I (List.getD (List.getD d.L c.I.toNat []) 0 default)), D.i (D.I (List.getD (List.getD d.L c.I.toNat []) (0 + 1) default))] 0 0 (List.length [K.int IntKind.i64, K.int IntKind.i64]))) c.I.toNat []) [D.i (D.I (List.getD (List.getD d.L b.I.toNat []) 0 default)), D.i (D.I (List.getD (List.getD d.L b.I.toNat []) (0 + 1) default))] 0 0 (List.length [K.int IntKind.i64, K.int IntKind.i64])))])))))))) := by kernel_rfl
theorem t176 (a b : D) : fnTW C tab176 176 s176 [a, b] =
 T.need (decide ((0 : Int) ≤ IntKind.i64.wrap ((a.I.toNat : Int) - (1 : Int)) ∧ IntKind.i64.wrap ((a.I.toNat : Int) - (1 : Int)) < (a.I.toNat : Int))) (T.need (decide (Int.toNat (IntKind.i64.wrap ((a.I.toNat : Int) - (1 : Int))) < b.L.length)) (T.need (decide ((0 : Int) ≤ IntKind.i64.wrap ((a.I.toNat : Int) - (1 : Int)) ∧ IntKind.i64.wrap ((a.I.toNat : Int) - (1 : Int)) ≤ (a.I.toNat : Int))) (T.leaf [D.i (D.I (List.getD (List.getD b.L (Int.toNat (IntKind.i64.wrap ((a.I.toNat : Int) - (1 : Int)))) []) 0 default)), D.i (D.I (List.getD (List.getD b.L (Int.toNat (IntKind.i64.wrap ((a.I.toNat : Int) - (1 : Int)))) []) (0 + 1) default)), D.i (↑(Int.toNat (IntKind.i64.wrap ((a.I.toNat : Int) - (1 : Int)))) : Int), D.l b.L]))) := by kernel_rfl
theorem t170 (a b c d : D) : fnTW C tab170 170 s170 [a, b, c, d] =
 T.need true (T.ite false T.fail (T.need (decide (c.I.toNat ≤ d.L.length ∧ c.I.toNat + List.length (List.take (List.length [[D.i a.I, D.i b.I]]) [[D.i a.I, D.i b.I]]) ≤ 2 ^ 62 ∧ (c.I.toNat + List.length (List.take (List.length [[D.i a.I, D.i b.I]]) [[D.i a.I, D.i b.I]])) * Try.prog.types[169].bytes ≤ 2 ^ 47)) (T.leaf [D.i (↑(c.I.toNat + List.length (List.take (List.length [[D.i a.I, D.i b.I]]) [[D.i a.I, D.i b.I]])) : Int), D.l (List.take c.I.toNat d.L ++ List.take (List.length [[D.i a.I, D.i b.I]]) [[D.i a.I, D.i b.I]])]))) := by kernel_rfl
theorem t145 (a b c : D) : fnTW C tab145 145 s145 [a, b, c] =
 T.need (yes ((0 : Int) ≤ a.I ∧ a.I < (↑(Int.toNat (b.I.toNat : Int)) : Int) ∧ Int.toNat (b.I.toNat : Int) ≤ c.L.length ∧ Int.toNat (b.I.toNat : Int) < 2199023255552)) (T.leaf [D.i (↑(Int.toNat (↑(Int.toNat (b.I.toNat : Int)) : Int)) : Int), D.l (upF (a.I.toNat + 1) c.L a.I.toNat)]) := by kernel_rfl
theorem t145_0 (a b c : D) : roundTK C tab145 145 (loopOf C.P 145 0) 2 l145_0 [a, b, c] =
 T.need true (T.ite (IntKind.i64.wrap (Int.tdiv (IntKind.i64.wrap (a.I - (1 : Int))) (2 : Int)) == a.I) (T.leaf (Rd.out (Ex.exit 0) [D.i (b.I.toNat : Int), D.l c.L])) (T.need (decide (b.I.toNat ≤ c.L.length)) (T.need (yes (((0 : Int) ≤ a.I ∧ a.I < (↑(List.length (List.take b.I.toNat c.L)) : Int)) ∧ (0 : Int) ≤ IntKind.i64.wrap (Int.tdiv (IntKind.i64.wrap (a.I - (1 : Int))) (2 : Int)) ∧ IntKind.i64.wrap (Int.tdiv (IntKind.i64.wrap (a.I - (1 : Int))) (2 : Int)) < (↑(List.length (List.take b.I.toNat c.L)) : Int))) (T.ite (!decide (atR (List.take b.I.toNat c.L) a.I.toNat < atR (List.take b.I.toNat c.L) (Int.toNat (IntKind.i64.wrap (Int.tdiv (IntKind.i64.wrap (a.I - (1 : Int))) (2 : Int)))))) (T.leaf (Rd.out (Ex.exit 0) [D.i (b.I.toNat : Int), D.l c.L])) (T.need (yes (((0 : Int) ≤ IntKind.i64.wrap (Int.tdiv (IntKind.i64.wrap (a.I - (1 : Int))) (2 : Int)) ∧ IntKind.i64.wrap (Int.tdiv (IntKind.i64.wrap (a.I - (1 : Int))) (2 : Int)) < (↑(Int.toNat (b.I.toNat : Int)) : Int)) ∧ ((0 : Int) ≤ a.I ∧ a.I < (↑(Int.toNat (b.I.toNat : Int)) : Int)) ∧ Int.toNat (b.I.toNat : Int) ≤ c.L.length)) (T.leaf (Rd.again [D.i (IntKind.i64.wrap (Int.tdiv (IntKind.i64.wrap (a.I - (1 : Int))) (2 : Int))), D.i (b.I.toNat : Int), D.l (swapR c.L (Int.toNat (IntKind.i64.wrap (Int.tdiv (IntKind.i64.wrap (a.I - (1 : Int))) (2 : Int)))) a.I.toNat)]))))))) := by kernel_rfl
theorem t174 (a b c d : D) : fnTW C tab174 174 s174 [a, b, c, d] =
 T.need (yes ((0 : Int) ≤ a.I ∧ a.I ≤ b.I ∧ b.I ≤ (↑(Int.toNat (c.I.toNat : Int)) : Int) ∧ Int.toNat (c.I.toNat : Int) ≤ d.L.length ∧ Int.toNat (c.I.toNat : Int) < 2199023255552)) (T.leaf [D.b (decide ((↑(downF (b.I.toNat + 1) d.L b.I.toNat a.I.toNat).snd : Int) > a.I)), D.i (↑(Int.toNat (↑(Int.toNat (c.I.toNat : Int)) : Int)) : Int), D.l (downF (b.I.toNat + 1) d.L b.I.toNat a.I.toNat).fst]) := by kernel_rfl
theorem t174_2 (a b c d e : D) : roundTK C tab174 174 (loopOf C.P 174 2) 2 l174_2 [a, b, c, d, e] =
 T.ite (decide (IntKind.i64.wrap (IntKind.i64.wrap ((2 : Int) * c.I) + (1 : Int)) ≥ b.I)) (T.leaf (Rd.out (Ex.exit 0) [D.i a.I, D.i c.I, D.i (d.I.toNat : Int), D.l e.L])) (T.ite (decide (IntKind.i64.wrap (IntKind.i64.wrap ((2 : Int) * c.I) + (1 : Int)) < (0 : Int))) (T.leaf (Rd.out (Ex.exit 0) [D.i a.I, D.i c.I, D.i (d.I.toNat : Int), D.l e.L])) (T.ite (decide (IntKind.i64.wrap (IntKind.i64.wrap (IntKind.i64.wrap ((2 : Int) * c.I) + (1 : Int)) + (1 : Int)) < b.I)) (T.need (decide (d.I.toNat ≤ e.L.length)) (T.need (yes (((0 : Int) ≤ IntKind.i64.wrap (IntKind.i64.wrap (IntKind.i64.wrap ((2 : Int) * c.I) + (1 : Int)) + (1 : Int)) ∧ IntKind.i64.wrap (IntKind.i64.wrap (IntKind.i64.wrap ((2 : Int) * c.I) + (1 : Int)) + (1 : Int)) < (↑(List.length (List.take d.I.toNat e.L)) : Int)) ∧ (0 : Int) ≤ IntKind.i64.wrap (IntKind.i64.wrap ((2 : Int) * c.I) + (1 : Int)) ∧ IntKind.i64.wrap (IntKind.i64.wrap ((2 : Int) * c.I) + (1 : Int)) < (↑(List.length (List.take d.I.toNat e.L)) : Int))) (T.ite (decide (atR (List.take d.I.toNat e.L) (Int.toNat (IntKind.i64.wrap (IntKind.i64.wrap (IntKind.i64.wrap ((2 : Int) * c.I) + (1 : Int)) + (1 : Int)))) < atR (List.take d.I.toNat e.L) (Int.toNat (IntKind.i64.wrap (IntKind.i64.wrap ((2 : Int) * c.I) + (1 : Int)))))) (T.need (decide (d.I.toNat ≤ e.L.length)) (T.need (yes (((0 : Int) ≤ IntKind.i64.wrap (IntKind.i64.wrap (IntKind.i64.wrap ((2 : Int) * c.I) + (1 : Int)) + (1 : Int)) ∧ IntKind.i64.wrap (IntKind.i64.wrap (IntKind.i64.wrap ((2 : Int) * c.I) + (1 : Int)) + (1 : Int)) < (↑(List.length (List.take d.I.toNat e.L)) : Int)) ∧ (0 : Int) ≤ c.I ∧ c.I < (↑(List.length (List.take d.I.toNat e.L)) : Int))) (T.ite (!decide (atR (List.take d.I.toNat e.L) (Int.toNat (IntKind.i64.wrap (IntKind.i64.wrap (IntKind.i64.wrap ((2 : Int) * c.I) + (1 : Int)) + (1 : Int)))) < atR (List.take d.I.toNat e.L) c.I.toNat)) (T.leaf (Rd.out (Ex.exit 0) [D.i a.I, D.i c.I, D.i (d.I.toNat : Int), D.l e.L])) (T.need (yes (((0 : Int) ≤ c.I ∧ c.I < (↑(Int.toNat (d.I.toNat : Int)) : Int)) ∧ ((0 : Int) ≤ IntKind.i64.wrap (IntKind.i64.wrap (IntKind.i64.wrap ((2 : Int) * c.I) + (1 : Int)) + (1 : Int)) ∧ IntKind.i64.wrap (IntKind.i64.wrap (IntKind.i64.wrap ((2 : Int) * c.I) + (1 : Int)) + (1 : Int)) < (↑(Int.toNat (d.I.toNat : Int)) : Int)) ∧ Int.toNat (d.I.toNat : Int) ≤ e.L.length)) (T.leaf (Rd.again [D.i a.I, D.i b.I, D.i (IntKind.i64.wrap (IntKind.i64.wrap (IntKind.i64.wrap ((2 : Int) * c.I) + (1 : Int)) + (1 : Int))), D.i (d.I.toNat : Int), D.l (swapR e.L c.I.toNat (Int.toNat (IntKind.i64.wrap (IntKind.i64.wrap (IntKind.i64.wrap ((2 : Int) * c.I) + (1 : Int)) + (1 : Int)))))])))))) (T.need (decide (d.I.toNat ≤ e.L.length)) (T.need (yes (((0 : Int) ≤ IntKind.i64.wrap (IntKind.i64.wrap ((2 : Int) * c.I) + (1 : Int)) ∧ IntKind.i64.wrap (IntKind.i64.wrap ((2 : Int) * c.I) + (1 : Int)) < (↑(List.length (List.take d.I.toNat e.L)) : Int)) ∧ (0 : Int) ≤ c.I ∧ c.I < (↑(List.length (List.take d.I.toNat e.L)) : Int))) (T.ite (!decide (atR (List.take d.I.toNat e.L) (Int.toNat (IntKind.i64.wrap (IntKind.i64.wrap ((2 : Int) * c.I) + (1 : Int)))) < atR (List.take d.I.toNat e.L) c.I.toNat)) (T.leaf (Rd.out (Ex.exit 0) [D.i a.I, D.i c.I, D.i (d.I.toNat : Int), D.l e.L])) (T.need (yes (((0 : Int) ≤ c.I ∧ c.I < (↑(Int.toNat (d.I.toNat : Int)) : Int)) ∧ ((0 : Int) ≤ IntKind.i64.wrap (IntKind.i64.wrap ((2 : Int) * c.I) + (1 : Int)) ∧ IntKind.i64.wrap (IntKind.i64.wrap ((2 : Int) * c.I) + (1 : Int)) < (↑(Int.toNat (d.I.toNat : Int)) : Int)) ∧ Int.toNat (d.I.toNat : Int) ≤ e.L.length)) (T.leaf (Rd.again [D.i a.I, D.i b.I, D.i (IntKind.i64.wrap (IntKind.i64.wrap ((2 : Int) * c.I) + (1 : Int))), D.i (d.I.toNat : Int), D.l (swapR e.L c.I.toNat (Int.toNat (IntKind.i64.wrap (IntKind.i64.wrap ((2 : Int) * c.I) + (1 : Int)))))]))))))))) (T.need (decide (d.I.toNat ≤ e.L.length)) (T.need (yes (((0 : Int) ≤ IntKind.i64.wrap (IntKind.i64.wrap ((2 : Int) * c.I) + (1 : Int)) ∧ IntKind.i64.wrap (IntKind.i64.wrap ((2 : Int) * c.I) + (1 : Int)) < (↑(List.length (List.take d.I.toNat e.L)) : Int)) ∧ (0 : Int) ≤ c.I ∧ c.I < (↑(List.length (List.take d.I.toNat e.L)) : Int))) (T.ite (!decide (atR (List.take d.I.toNat e.L) (Int.toNat (IntKind.i64.wrap (IntKind.i64.wrap ((2 : Int) * c.I) + (1 : Int)))) < atR (List.take d.I.toNat e.L) c.I.toNat)) (T.leaf (Rd.out (Ex.exit 0) [D.i a.I, D.i c.I, D.i (d.I.toNat : Int), D.l e.L])) (T.need (yes (((0 : Int) ≤ c.I ∧ c.I < (↑(Int.toNat (d.I.toNat : Int)) : Int)) ∧ ((0 : Int) ≤ IntKind.i64.wrap (IntKind.i64.wrap ((2 : Int) * c.I) + (1 : Int)) ∧ IntKind.i64.wrap (IntKind.i64.wrap ((2 : Int) * c.I) + (1 : Int)) < (↑(Int.toNat (d.I.toNat : Int)) : Int)) ∧ Int.toNat (d.I.toNat : Int) ≤ e.L.length)) (T.leaf (Rd.again [D.i a.I, D.i b.I, D.i (IntKind.i64.wrap (IntKind.i64.wrap ((2 : Int) * c.I) + (1 : Int))), D.i (d.I.toNat : Int), D.l (swapR e.L c.I.toNat (Int.toNat (IntKind.i64.wrap (IntKind.i64.wrap ((2 : Int) * c.I) + (1 : Int)))))])))))))) := by kernel_rfl
theorem t141 (a b c d : D) : fnTW C tab141 141 s141 [a, b, c, d] =
 T.need (yes (Int.toNat (c.I.toNat : Int) ≤ d.L.length ∧ Int.toNat (c.I.toNat : Int) < 1099511627776)) (T.need (decide (Int.toNat (↑(Int.toNat (c.I.toNat : Int) + 1) : Int) ≤ List.length (List.take (Int.toNat (c.I.toNat : Int)) d.L ++ [[D.i a.I, D.i b.I]]))) (T.need (yes ((0 : Int) ≤ IntKind.i64.wrap ((↑(List.length (List.take (Int.toNat (↑(Int.toNat (c.I.toNat : Int) + 1) : Int)) (List.take (Int.toNat (c.I.toNat : Int)) d.L ++ [[D.i a.I, D.i b.I]]))) : Int) - (1 : Int)) ∧ IntKind.i64.wrap ((↑(List.length (List.take (Int.toNat (↑(Int.toNat (c.I.toNat : Int) + 1) : Int)) (List.take (Int.toNat (c.I.toNat : Int)) d.L ++ [[D.i a.I, D.i b.I]]))) : Int) - (1 : Int)) < (↑(Int.toNat (↑(Int.toNat (↑(Int.toNat (c.I.toNat : Int) + 1) : Int)) : Int)) : Int) ∧ Int.toNat (↑(Int.toNat (↑(Int.toNat (c.I.toNat : Int) + 1) : Int)) : Int) ≤ List.length (List.take (Int.toNat (c.I.toNat : Int)) d.L ++ [[D.i a.I, D.i b.I]]) ∧ Int.toNat (↑(Int.toNat (↑(Int.toNat (c.I.toNat : Int) + 1) : Int)) : Int) < 2199023255552)) (T.leaf [D.i (↑(Int.toNat (↑(Int.toNat (↑(Int.toNat (↑(Int.toNat (c.I.toNat : Int) + 1) : Int)) : Int)) : Int)) : Int), D.l (upF (Int.toNat (IntKind.i64.wrap ((↑(List.length (List.take (Int.toNat (↑(Int.toNat (c.I.toNat : Int) + 1) : Int)) (List.take (Int.toNat (c.I.toNat : Int)) d.L ++ [[D.i a.I, D.i b.I]]))) : Int) - (1 : Int))) + 1) (List.take (Int.toNat (c.I.toNat : Int)) d.L ++ [[D.i a.I, D.i b.I]]) (Int.toNat (IntKind.i64.wrap ((↑(List.length (List.take (Int.toNat (↑(Int.toNat (c.I.toNat : Int) + 1) : Int)) (List.take (Int.toNat (c.I.toNat : Int)) d.L ++ [[D.i a.I, D.i b.I]]))) : Int) - (1 : Int)))))]))) := by kernel_rfl
theorem t173 (a b : D) : fnTW C tab173 173 s173 [a, b] =
 T.need (decide (a.I.toNat ≤ b.L.length)) (T.need (yes (((0 : Int) ≤ (0 : Int) ∧ (0 : Int) < (↑(Int.toNat (a.I.toNat : Int)) : Int)) ∧ ((0 : Int) ≤ IntKind.i64.wrap ((↑(List.length (List.take a.I.toNat b.L)) : Int) - (1 : Int)) ∧ IntKind.i64.wrap ((↑(List.length (List.take a.I.toNat b.L)) : Int) - (1 : Int)) < (↑(Int.toNat (a.I.toNat : Int)) : Int)) ∧ Int.toNat (a.I.toNat : Int) ≤ b.L.length)) (T.need (yes ((0 : Int) ≤ (0 : Int) ∧ (0 : Int) ≤ IntKind.i64.wrap ((↑(List.length (List.take a.I.toNat b.L)) : Int) - (1 : Int)) ∧ IntKind.i64.wrap ((↑(List.length (List.take a.I.toNat b.L)) : Int) - (1 : Int)) ≤ (↑(Int.toNat (a.I.toNat : Int)) : Int) ∧ Int.toNat (a.I.toNat : Int) ≤ List.length (swapR b.L (Int.toNat (0 : Int)) (Int.toNat (IntKind.i64.wrap ((↑(List.length (List.take a.I.toNat b.L)) : Int) - (1 : Int))))) ∧ Int.toNat (a.I.toNat : Int) < 2199023255552)) (T.need (yes (1 ≤ Int.toNat (↑(Int.toNat (↑(Int.toNat (a.I.toNat : Int)) : Int)) : Int) ∧ Int.toNat (↑(Int.toNat (↑(Int.toNat (a.I.toNat : Int)) : Int)) : Int) ≤ List.length (downF (Int.toNat (IntKind.i64.wrap ((↑(List.length (List.take a.I.toNat b.L)) : Int) - (1 : Int))) + 1) (swapR b.L (Int.toNat (0 : Int)) (Int.toNat (IntKind.i64.wrap ((↑(List.length (List.take a.I.toNat b.L)) : Int) - (1 : Int))))) (Int.toNat (IntKind.i64.wrap ((↑(List.length (List.take a.I.toNat b.L)) : Int) - (1 : Int)))) (Int.toNat (0 : Int))).fst ∧ Int.toNat (↑(Int.toNat (↑(Int.toNat (a.I.toNat : Int)) : Int)) : Int) < 1099511627776)) (T.leaf [D.i (ix (List.getD (downF (Int.toNat (IntKind.i64.wrap ((↑(List.length (List.take a.I.toNat b.L)) : Int) - (1 : Int))) + 1) (swapR b.L (Int.toNat (0 : Int)) (Int.toNat (IntKind.i64.wrap ((↑(List.length (List.take a.I.toNat b.L)) : Int) - (1 : Int))))) (Int.toNat (IntKind.i64.wrap ((↑(List.length (List.take a.I.toNat b.L)) : Int) - (1 : Int)))) (Int.toNat (0 : Int))).fst (Int.toNat (↑(Int.toNat (↑(Int.toNat (a.I.toNat : Int)) : Int)) : Int) - 1) []) 0), D.i (ix (List.getD (downF (Int.toNat (IntKind.i64.wrap ((↑(List.length (List.take a.I.toNat b.L)) : Int) - (1 : Int))) + 1) (swapR b.L (Int.toNat (0 : Int)) (Int.toNat (IntKind.i64.wrap ((↑(List.length (List.take a.I.toNat b.L)) : Int) - (1 : Int))))) (Int.toNat (IntKind.i64.wrap ((↑(List.length (List.take a.I.toNat b.L)) : Int) - (1 : Int)))) (Int.toNat (0 : Int))).fst (Int.toNat (↑(Int.toNat (↑(Int.toNat (a.I.toNat : Int)) : Int)) : Int) - 1) []) 1), D.i (↑(Int.toNat (↑(Int.toNat (↑(Int.toNat (↑(Int.toNat (a.I.toNat : Int)) : Int)) : Int) - 1) : Int)) : Int), D.l (downF (Int.toNat (IntKind.i64.wrap ((↑(List.length (List.take a.I.toNat b.L)) : Int) - (1 : Int))) + 1) (swapR b.L (Int.toNat (0 : Int)) (Int.toNat (IntKind.i64.wrap ((↑(List.length (List.take a.I.toNat b.L)) : Int) - (1 : Int))))) (Int.toNat (IntKind.i64.wrap ((↑(List.length (List.take a.I.toNat b.L)) : Int) - (1 : Int)))) (Int.toNat (0 : Int))).fst])))) := by kernel_rfl
theorem t172 (a b : D) : fnTW C tab172 172 s172 [a, b] =
 T.need (yes (1 ≤ Int.toNat (a.I.toNat : Int) ∧ Int.toNat (a.I.toNat : Int) ≤ b.L.length ∧ Int.toNat (a.I.toNat : Int) < 1099511627776)) (T.leaf [D.i (ix (List.getD (popR b.L (Int.toNat (a.I.toNat : Int))) (Int.toNat (a.I.toNat : Int) - 1) []) 0), D.i (ix (List.getD (popR b.L (Int.toNat (a.I.toNat : Int))) (Int.toNat (a.I.toNat : Int) - 1) []) 1), D.i (↑(Int.toNat (↑(Int.toNat (a.I.toNat : Int) - 1) : Int)) : Int), D.l (popR b.L (Int.toNat (a.I.toNat : Int)))]) := by kernel_rfl
theorem t120 (a b c d : D) : fnTW C tab120 120 s120 [a, b, c, d] =
 T.leaf [D.i c.I, D.l d.L, D.i a.I, D.i b.I] := by kernel_rfl
theorem t121 (q : Nat) (a b c d : D) : fnTY C (tab121 q) 121 s121 [a, b, c, d] =
 T.need (yes (okR b.L ∧ okS d.I ∧ (b.L.length : Int) = (b.L.length : Int) ∧ (0 : Int) ≤ (0 : Int) ∧ (0 : Int) ≤ (b.L.length : Int) ∧ List.length ([] : List (List D)) ≤ q)) (T.ite (decide (q < List.length ([] : List (List D)) + List.length (nextF b.L c.I d.I (Int.toNat (0 : Int)) (b.L.length - Int.toNat (0 : Int))))) (T.leaf ([] ++ List.take (q + 1 - List.length ([] : List (List D))) (nextF b.L c.I d.I (Int.toNat (0 : Int)) (b.L.length - Int.toNat (0 : Int))))) (T.leaf ([] ++ nextF b.L c.I d.I (Int.toNat (0 : Int)) (b.L.length - Int.toNat (0 : Int))))) := by kernel_rfl
theorem t121_1 (q : Nat) (a b c d e f : D) : roundTY C (tab121 q) 121 (loopOf C.P 121 1) 2 l121_1 [a, b, c, d, e, f] =
 T.ite (decide (d.I < c.I)) (T.need (decide ((0 : Int) ≤ d.I ∧ d.I < (b.L.length : Int))) (T.ite (D.I (List.getD (List.getD b.L d.I.toNat []) 0 default) == e.I) (T.need (yes (okT (D.I (List.getD (List.getD b.L d.I.toNat []) (0 + 1 + 1) default)) ∧ okS f.I ∧ okC (D.L (List.getD (List.getD b.L d.I.toNat []) (0 + 1 + 1 + 1) default)))) (T.ite (!!a.L.length == (tab121 q).q) (T.leaf (Rd.out Ex.ret [D.l (a.L ++ [[D.i (D.I (List.getD (List.getD b.L d.I.toNat []) (0 + 1) default))] ++ ([D.i (IntKind.i64.wrap (entF (D.L (List.getD (List.getD b.L d.I.toNat []) (0 + 1 + 1 + 1) default)) (D.I (List.getD (List.getD b.L d.I.toNat []) (0 + 1 + 1) default)) 0 (List.length (D.L (List.getD (List.getD b.L d.I.toNat []) (0 + 1 + 1 + 1) default))) f.I + D.I (List.getD (List.getD b.L d.I.toNat []) (0 + 1 + 1) default)))] ++ []) ++ [] ++ []]), D.i e.I, D.i f.I])) (T.leaf (Rd.again [D.l (a.L ++ [[D.i (D.I (List.getD (List.getD b.L d.I.toNat []) (0 + 1) default))] ++ ([D.i (IntKind.i64.wrap (entF (D.L (List.getD (List.getD b.L d.I.toNat []) (0 + 1 + 1 + 1) default)) (D.I (List.getD (List.getD b.L d.I.toNat []) (0 + 1 + 1) default)) 0 (List.length (D.L (List.getD (List.getD b.L d.I.toNat []) (0 + 1 + 1 + 1) default))) f.I + D.I (List.getD (List.getD b.L d.I.toNat []) (0 + 1 + 1) default)))] ++ []) ++ [] ++ []]), D.l b.L, D.i c.I, D.i (IntKind.i64.wrap (d.I + (1 : Int))), D.i e.I, D.i f.I])))) (T.leaf (Rd.again [D.l a.L, D.l b.L, D.i c.I, D.i (IntKind.i64.wrap (d.I + (1 : Int))), D.i e.I, D.i f.I])))) (T.leaf (Rd.out (Ex.exit 0) [D.l a.L, D.i e.I, D.i f.I])) := by kernel_rfl
set_option maxRecDepth 100000
theorem ok83 (n : Nat) : FnOK C (n + 1) 83 (mkF s83 G83) := by
 refine fn_ofS hC (sp := sp83) (lp := lp83) (sw := sw83) trivial trivial (by kernel_rfl) [] (by kernel_rfl) rfl (fun k hk => by cases hk) fun ds r h => ?_
 unfold G83 at h
 split at h
 ·rename_i a b c
  cases h
  refine (congrArg T.run (t83 a b c)).trans (go_if (fun h1 => ?_) fun h1 => ?_)
  ·rw [within_dec]
   simp only [run_leaf, show (b.I ≤ a.I ∧ a.I ≤ c.I) ↔ a.I ≤ c.I from ⟨fun h => h.2, fun h => ⟨h1, h⟩⟩]
  ·rw [within_dec, decide_eq_false (fun h => h1 h.1)]
   rfl
 ·cases h
theorem entF_step {l : List (List D)} {c s : Int} {j : Nat} (hj : j < l.length) : entF l c j (l.length - j) s = entF l c (j + 1) (l.length - (j + 1)) (if s + c > ix (l.getD j []) 0 ∧ s < ix (l.getD j []) 1 then ix (l.getD j []) 1 else s) := by
 rw [show l.length - j = (l.length - (j + 1)) + 1 by omega]
 rfl
theorem okS_of {l : List (List D)} {j : Nat} (h : okC l) : okS (ix (l.getD j []) 1) := by
 have := h.2 j
 unfold okS
 omega
theorem ok87_2 (n : Nat) : LoopSim C n 87 (loopOf C.P 87 2) (mkL l87_2 G87_2) := by
 refine loop_ofK hC (sp := sp87) (lp := lp87) (sw := sw87) trivial trivial 0 [] (by kernel_rfl) rfl (fun k hk => by cases hk) (by kernel_rfl) (fun ds => ((ds.getD 2 default).I - (ds.getD 3 default).I).toNat) fun ds rr h => ?_
 unfold G87_2 at h
 split at h
 ·rename_i s l m i a b c l2
  obtain ⟨hp, h⟩ := need_some h
  rw [yes_iff] at hp
  obtain ⟨hc, hs, hl, hm, hi0, hi1⟩ := hp
  have hb := big_eq
  have hll := hl.1
  refine ⟨by rw [fuelC]; simp; omega, ?_⟩
  rw [show roundTK C (mkTab sp87 lp87 sw87) 87 (loopOf C.P 87 2) 0 l87_2 [s, l, m, i, a, b, c, l2] = _ from t87_2 s l m i a b c l2]
  obtain ⟨j, hj⟩ : ∃ j : Nat, i.I = j := ⟨i.I.toNat, by omega⟩
  simp only [hj, hm, Int.toNat_natCast, ix_def] at h hi0 hi1 ⊢
  have hcj := hl.2 j
  unfold okS at hs
  unfold okT at hc
  refine rd_if (fun hlt => ?_) fun hge => ?_
  ·rw [entF_step (by omega)] at h
   rw [wrap_id (by omega) (by omega), wrap_succ (by omega)]
   refine rd_dec (by omega) (rd_if (fun c1 => rd_if (fun c2 => ?_) fun c2 => ?_) fun c1 => ?_)
   ·rw [if_pos ⟨c1, c2⟩] at h
    refine rd_again ((need_yes ⟨hc, okS_of hl, hl, by simp only [I_i, L_l], by simp only [I_i]; omega, by simp only [I_i, L_l]; omega⟩).trans ?_) ?_
    ·exact h
    ·show ((l.L.length : Int) - ((j + 1 : Nat) : Int)).toNat < (m.I - i.I).toNat
     rw [hj, hm]; omega
   ·rw [if_neg (fun h => c2 h.2)] at h
    refine rd_again ((need_yes ⟨hc, hs, hl, by simp only [I_i, L_l], by simp only [I_i]; omega, by simp only [I_i, L_l]; omega⟩).trans ?_) ?_
    ·exact h
    ·show ((l.L.length : Int) - ((j + 1 : Nat) : Int)).toNat < (m.I - i.I).toNat
     rw [hj, hm]; omega
   ·rw [if_neg (fun h => c1 h.1)] at h
    refine rd_again ((need_yes ⟨hc, hs, hl, by simp only [I_i, L_l], by simp only [I_i]; omega, by simp only [I_i, L_l]; omega⟩).trans ?_) ?_
    ·exact h
    ·show ((l.L.length : Int) - ((j + 1 : Nat) : Int)).toNat < (m.I - i.I).toNat
     rw [hj, hm]; omega
  ·rw [show l.L.length - j = 0 by omega] at h
   exact rd_out h
 ·cases h
theorem ok87 (n : Nat) : FnOK C (n + 1) 87 (mkF s87 G87) := by
 refine fn_ofS hC (sp := sp87) (lp := lp87) (sw := sw87) trivial trivial (by kernel_rfl) [2] (by kernel_rfl) (by kernel_rfl) (fun k hk L hL => by
  simp at hk; subst hk; cases hL; exact ok87_2 n) fun ds r h => ?_
 unfold G87 at h
 split at h
 ·rename_i a b c l s
  obtain ⟨hp, h⟩ := need_some h
  rw [yes_iff] at hp
  obtain ⟨hc, hs, hl⟩ := hp
  refine (congrArg T.run (t87 a b c l s)).trans (go_yes ⟨hc, hs, hl, rfl, by omega, by omega⟩ ?_)
  exact h
 ·cases h
theorem ok168 (n : Nat) : FnOK C (n + 1) 168 (mkF s168 G168) := by
 refine fn_ofS hC (sp := sp168) (lp := lp168) (sw := sw168) trivial trivial (by kernel_rfl) [] (by kernel_rfl) rfl (fun k hk => by cases hk) fun ds r h => ?_
 unfold G168 at h
 split at h
 ·rename_i l
  exact (congrArg T.run (t168 l)).trans h
 ·cases h
theorem ok169 (n : Nat) : FnOK C (n + 1) 169 (mkF s169 G169) := by
 refine fn_ofS hC (sp := sp169) (lp := lp169) (sw := sw169) trivial trivial (by kernel_rfl) [] (by kernel_rfl) rfl (fun k hk => by cases hk) fun ds r h => ?_
 unfold G169 at h
 split at h
 ·rename_i l i j
  obtain ⟨hp, h⟩ := need_some h
  rw [yes_iff] at hp
  exact (congrArg T.run (t169 l i j)).trans (go_dec hp.1 (go_dec hp.2 h))
 ·cases h
theorem len_swap (l : List (List D)) (i j : Nat) : (swapR l i j).length = l.length := by simp [swapR]
theorem getD_set {l : List (List D)} {i k : Nat} {c : List D} (hi : i < l.length) : (l.set i c).getD k [] = if k = i then c else l.getD k [] := by
 simp only [List.getD_eq_getElem?_getD, List.getElem?_set]
 by_cases e : k = i
 ·subst e; simp [hi]
 ·rw [if_neg (fun h => e h.symm), if_neg e]
theorem ok171 (n : Nat) : FnOKW C (n + 1) 171 (mkFW s171 G171) := by
 refine fn_ofW hC (sp := sp171) (lp := lp171) (sw := sw171) trivial trivial (by kernel_rfl) [] (by kernel_rfl) rfl (fun k hk => by cases hk) fun ds r h => ?_
 unfold G171 at h
 split at h
 ·rename_i m i j l
  obtain ⟨hp, h⟩ := need_some h
  rw [yes_iff] at hp
  obtain ⟨h1, h2, h3⟩ := hp
  refine (congrArg T.run (t171 m i j l)).trans (go_dec h2 (go_dec (by omega) (go_dec h1 (go_dec (by omega) (go_dec h1 (go_dec (by omega) (go_dec h2 (go_dec (by rw [List.length_set]; omega) ?_))))))))
  simp only [upd2]
  exact h
 ·cases h
theorem ok176 (n : Nat) : FnOKW C (n + 1) 176 (mkFW s176 G176) := by
 refine fn_ofW hC (sp := sp176) (lp := lp176) (sw := sw176) trivial trivial (by kernel_rfl) [] (by kernel_rfl) rfl (fun k hk => by cases hk) fun ds r h => ?_
 unfold G176 at h
 split at h
 ·rename_i m l
  obtain ⟨hp, h⟩ := need_some h
  rw [yes_iff] at hp
  obtain ⟨h1, h2, h3⟩ := hp
  refine (congrArg T.run (t176 m l)).trans ?_
  rw [wrap_id (by omega) (by omega), show ((m.I.toNat : Int) - 1) = ((m.I.toNat - 1 : Nat) : Int) by omega]
  simp only [Int.toNat_natCast]
  exact go_need (by simp; omega) (go_need (by simp; omega) (go_need (by simp; omega) h))
 ·cases h
theorem ok170 (n : Nat) : FnOKW C (n + 1) 170 (mkFW s170 G170) := by
 have hby : Try.prog.types[169].bytes = 16 := by kernel_rfl
 refine fn_ofW hC (sp := sp170) (lp := lp170) (sw := sw170) trivial trivial (by kernel_rfl) [] (by kernel_rfl) rfl (fun k hk => by cases hk) fun ds r h => ?_
 unfold G170 at h
 split at h
 ·rename_i v t m l
  obtain ⟨hp, h⟩ := need_some h
  rw [yes_iff] at hp
  obtain ⟨h1, h2⟩ := hp
  refine (congrArg T.run (t170 v t m l)).trans (go_need rfl (go_false rfl (go_dec ⟨h1, by simp; omega, by rw [hby]; simp; omega⟩ h)))
 ·cases h
theorem ok120 (n : Nat) : FnOKW C (n + 1) 120 (mkFW s120 G120) := by
 refine fn_ofW hC (sp := sp120) (lp := lp120) (sw := sw120) trivial trivial (by kernel_rfl) [] (by kernel_rfl) rfl (fun k hk => by cases hk) fun ds r h => ?_
 unfold G120 at h
 split at h
 ·rename_i v t m l
  exact (congrArg T.run (t120 v t m l)).trans h
 ·cases h
theorem upF_more : ∀ (j f : Nat) (l : List (List D)), j + 1 ≤ f → upF f l j = upF (j + 1) l j := by
 intro j
 induction j using Nat.strongRecOn with
 | _ j ih =>
   intro f l hf
   obtain ⟨f, rfl⟩ : ∃ g, f = g + 1 := ⟨f - 1, by omega⟩
   simp only [upF]
   split
   ·rfl
   ·rename_i hc
    rw [not_or] at hc
    have hlt : (j - 1) / 2 < j := by omega
    rw [ih _ hlt f _ (by omega), ih _ hlt j _ (by omega)]
theorem half_eq {j : Nat} (hj : j < 2199023255552) : IntKind.wrap .i64 (Int.tdiv (IntKind.wrap .i64 ((j : Int) - 1)) 2) = (((j - 1) / 2 : Nat) : Int) := by
 rw [wrap_id (x := (j : Int) - 1) (by omega) (by omega)]
 cases j with
 | zero => rfl
 | succ j =>
   rw [show ((j + 1 : Nat) : Int) - 1 = (j : Int) by omega, show j + 1 - 1 = j by omega, Int.tdiv_eq_ediv_of_nonneg (by omega)]
   rw [wrap_id (by omega) (by omega)]
   omega
theorem at_take {l : List (List D)} {n i : Nat} (hi : i < n) : atR (l.take n) i = atR l i := by
 unfold atR
 simp only [List.getD_eq_getElem?_getD, List.getElem?_take, if_pos hi]
theorem ok145_0 (n : Nat) : LoopSimK C (n + 1) 2 145 (loopOf C.P 145 0) (mkLK 2 l145_0 G145_0) := by
 refine loop_ofK hC (sp := sp145) (lp := lp145) (sw := sw145) ⟨ok169 n, trivial⟩ ⟨ok171 n, trivial⟩ 2 [] (by kernel_rfl) rfl (fun k hk => by cases hk) (by kernel_rfl) (fun ds => (ds.getD 0 default).I.toNat) fun ds rr h => ?_
 unfold G145_0 at h
 split at h
 ·rename_i i m l
  obtain ⟨hp, h⟩ := need_some h
  rw [yes_iff] at hp
  obtain ⟨h0, h1, h2, h3⟩ := hp
  refine ⟨by rw [fuelC]; simp; omega, ?_⟩
  rw [show roundTK C (mkTab sp145 lp145 sw145) 145 (loopOf C.P 145 0) 2 l145_0 [i, m, l] = _ from t145_0 i m l]
  obtain ⟨j, hj⟩ : ∃ j : Nat, i.I = j := ⟨i.I.toNat, by omega⟩
  rw [hj, half_eq (by omega)]
  simp only [hj, Int.toNat_natCast] at h h1 ⊢
  have ht : (l.L.take m.I.toNat).length = m.I.toNat := by rw [List.length_take]; omega
  have hl1 : j < m.I.toNat := by omega
  have hl2 : (j - 1) / 2 < m.I.toNat := by omega
  simp only [at_take hl1, at_take hl2]
  simp only [upF] at h
  refine rd_need rfl (rd_ite (fun c1 => ?_) fun c1 => ?_)
  ·rw [beq_iff_eq] at c1
   rw [if_pos (.inl (by omega))] at h
   exact rd_out h
  ·rw [beq_eq_false_iff_ne] at c1
   refine rd_dec h2 (rd_yes (by rw [ht]; omega) (rd_not (fun c2 => ?_) fun c2 => ?_))
   ·have c2 := of_decide_eq_false c2
    rw [if_pos (.inr c2)] at h
    exact rd_out h
   ·have c2 := of_decide_eq_true c2
    rw [if_neg (by rw [not_or]; exact ⟨by omega, fun h => h c2⟩)] at h
    refine rd_yes ⟨by omega, by omega, h2⟩ (rd_again ((need_yes ⟨by simp only [I_i]; omega, by simp only [I_i, Int.toNat_natCast]; omega, by simp only [I_i, L_l, Int.toNat_natCast, len_swap]; omega, by simp only [I_i, Int.toNat_natCast]; omega⟩).trans ?_) ?_)
    ·simp only [I_i, L_l, Int.toNat_natCast]
     rw [← upF_more _ j _ (by omega)]
     exact h
    ·simp only [List.getD_cons_zero, I_i, hj]; omega
 ·cases h
theorem ok145 (n : Nat) : FnOKW C (n + 2) 145 (mkFW s145 G145) := by
 refine fn_ofW hC (sp := sp145) (lp := lp145) (sw := sw145) ⟨ok169 n, trivial⟩ ⟨ok171 n, trivial⟩ (by kernel_rfl) [0] (by kernel_rfl) (by kernel_rfl) (fun k hk L hL => by
  simp at hk; subst hk; cases hL; exact ok145_0 n) fun ds r h => ?_
 unfold G145 at h
 split at h
 ·rename_i j m l
  obtain ⟨hp, h⟩ := need_some h
  rw [yes_iff] at hp
  refine (congrArg T.run (t145 j m l)).trans ?_
  simp only [Int.toNat_natCast]
  exact go_yes hp h
 ·cases h
theorem downF_more (m : Nat) : ∀ (d i f : Nat) (l : List (List D)), m - i ≤ d → d + 1 ≤ f → downF f l m i = downF (d + 1) l m i
 | 0, i, f, l, hd, hf => by
   obtain ⟨f, rfl⟩ : ∃ g, f = g + 1 := ⟨f - 1, by omega⟩
   simp only [downF]
   rw [if_pos (.inl (by omega)), if_pos (.inl (by omega))]
 | d + 1, i, f, l, hd, hf => by
   obtain ⟨f, rfl⟩ : ∃ g, f = g + 1 := ⟨f - 1, by omega⟩
   show downF (f + 1) l m i = downF ((d + 1) + 1) l m i
   rw [downF, downF]
   split
   ·rfl
   ·rename_i hc
    rw [not_or] at hc
    have : kidR l m i = 2 * i + 1 ∨ kidR l m i = 2 * i + 2 := by unfold kidR; split <;> simp
    exact downF_more m d _ f _ (by omega) (by omega)
theorem kid_lt {l : List (List D)} {m i : Nat} (h : 2 * i + 1 < m) : kidR l m i < m ∧ i < kidR l m i := by
 unfold kidR
 split
 ·rename_i hc; omega
 ·omega
theorem ok174_2 (n : Nat) : LoopSimK C (n + 1) 2 174 (loopOf C.P 174 2) (mkLK 2 l174_2 G174_2) := by
 refine loop_ofK hC (sp := sp174) (lp := lp174) (sw := sw174) ⟨ok169 n, trivial⟩ ⟨ok171 n, trivial⟩ 2 [] (by kernel_rfl) rfl (fun k hk => by cases hk) (by kernel_rfl) (fun ds => ((ds.getD 1 default).I - (ds.getD 2 default).I).toNat) fun ds rr h => ?_
 unfold G174_2 at h
 split at h
 ·rename_i s m i n' l
  obtain ⟨hp, h⟩ := need_some h
  rw [yes_iff] at hp
  obtain ⟨h0, h1, h2, h3, h4⟩ := hp
  refine ⟨by rw [fuelC]; simp; omega, ?_⟩
  rw [show roundTK C (mkTab sp174 lp174 sw174) 174 (loopOf C.P 174 2) 2 l174_2 [s, m, i, n', l] = _ from t174_2 s m i n' l]
  obtain ⟨j, hj⟩ : ∃ j : Nat, i.I = j := ⟨i.I.toNat, by omega⟩
  obtain ⟨k, hk⟩ : ∃ k : Nat, m.I = k := ⟨m.I.toNat, by omega⟩
  have e1 : IntKind.wrap .i64 (2 * (j : Int)) = ((2 * j : Nat) : Int) := by rw [wrap_id (by omega) (by omega)]; omega
  have e2 : IntKind.wrap .i64 (((2 * j : Nat) : Int) + 1) = ((2 * j + 1 : Nat) : Int) := wrap_succ (by omega)
  have e3 : IntKind.wrap .i64 (((2 * j + 1 : Nat) : Int) + 1) = ((2 * j + 2 : Nat) : Int) := wrap_succ (by omega)
  simp only [hj, hk, Int.toNat_natCast] at h h1 h2
  simp only [hj, hk, e1, e2, e3, Int.toNat_natCast]
  have ht : (l.L.take n'.I.toNat).length = n'.I.toNat := by rw [List.length_take]; omega
  rw [downF] at h
  refine rd_if (fun c1 => ?_) fun c1 => rd_if (fun c2 => absurd c2 (by omega)) fun _ => ?_
  ·rw [if_pos (.inl (by omega))] at h
   exact rd_out h
  ·have hstep : ∀ q : Nat, kidR l.L k j = q → q < k → j < q → (atR l.L q < atR l.L j → (G174_2 [D.i s.I, D.i (k : Int), D.i (q : Int), D.i (n'.I.toNat : Int), D.l (swapR l.L j q)]).run = some rr) ∧ (¬ atR l.L q < atR l.L j → some (Ex.exit 0, [D.i s.I, D.i (j : Int), D.i (n'.I.toNat : Int), D.l l.L]) = some rr) := by
    intro q hq hqk hjq
    rw [hq] at h
    refine ⟨fun c => ?_, fun c => ?_⟩
    ·rw [if_neg (by rw [not_or]; exact ⟨by omega, fun h => h c⟩)] at h
     refine (need_yes ⟨by simp only [I_i]; omega, by simp only [I_i]; omega, by simp only [I_i, Int.toNat_natCast]; omega, by simp only [I_i, L_l, Int.toNat_natCast, len_swap]; omega, by simp only [I_i, Int.toNat_natCast]; omega⟩).trans ?_
     simp only [I_i, L_l, Int.toNat_natCast]
     rw [downF_more k (k - 1) q (k + 1) _ (by omega) (by omega), show k - 1 + 1 = k by omega]
     exact h
    ·rw [if_pos (.inr c)] at h
     exact h
   have hend : ∀ q : Nat, q < k → j < q → (((k : Int)) - (q : Int)).toNat < (m.I - i.I).toNat := fun q h1 h2 => by rw [hj, hk]; omega
   refine rd_if (fun c3 => ?_) fun c3 => ?_
   ·simp only [at_take (show 2 * j + 2 < n'.I.toNat by omega), at_take (show 2 * j + 1 < n'.I.toNat by omega), at_take (show j < n'.I.toNat by omega)]
    refine rd_dec h3 (rd_yes (by rw [ht]; omega) (rd_ite (fun c4 => ?_) fun c4 => ?_))
    ·have c4 := of_decide_eq_true c4
     obtain ⟨z1, z2⟩ := hstep (2 * j + 2) (by unfold kidR; rw [if_pos ⟨by omega, c4⟩]) (by omega) (by omega)
     refine rd_dec h3 (rd_yes (by rw [ht]; omega) (rd_not (fun c5 => rd_out (z2 (of_decide_eq_false c5))) fun c5 => rd_yes ⟨by omega, by omega, h3⟩ (rd_again (z1 (of_decide_eq_true c5)) (hend _ (by omega) (by omega)))))
    ·have c4 := of_decide_eq_false c4
     obtain ⟨z1, z2⟩ := hstep (2 * j + 1) (by unfold kidR; rw [if_neg (fun h => c4 h.2)]) (by omega) (by omega)
     refine rd_dec h3 (rd_yes (by rw [ht]; omega) (rd_not (fun c5 => rd_out (z2 (of_decide_eq_false c5))) fun c5 => rd_yes ⟨by omega, by omega, h3⟩ (rd_again (z1 (of_decide_eq_true c5)) (hend _ (by omega) (by omega)))))
   ·simp only [at_take (show 2 * j + 1 < n'.I.toNat by omega), at_take (show j < n'.I.toNat by omega)]
    obtain ⟨z1, z2⟩ := hstep (2 * j + 1) (by unfold kidR; rw [if_neg (fun h => c3 (by omega))]) (by omega) (by omega)
    refine rd_dec h3 (rd_yes (by rw [ht]; omega) (rd_not (fun c5 => rd_out (z2 (of_decide_eq_false c5))) fun c5 => rd_yes ⟨by omega, by omega, h3⟩ (rd_again (z1 (of_decide_eq_true c5)) (hend _ (by omega) (by omega)))))
 ·cases h
theorem ok174 (n : Nat) : FnOKW C (n + 2) 174 (mkFW s174 G174) := by
 refine fn_ofW hC (sp := sp174) (lp := lp174) (sw := sw174) ⟨ok169 n, trivial⟩ ⟨ok171 n, trivial⟩ (by kernel_rfl) [2] (by kernel_rfl) (by kernel_rfl) (fun k hk L hL => by
  simp at hk; subst hk; cases hL; exact ok174_2 n) fun ds r h => ?_
 unfold G174 at h
 split at h
 ·rename_i s m k l
  obtain ⟨hp, h⟩ := need_some h
  rw [yes_iff] at hp
  refine (congrArg T.run (t174 s m k l)).trans ?_
  simp only [Int.toNat_natCast]
  exact go_yes hp h
 ·cases h
theorem len_down (m : Nat) : ∀ (f : Nat) (l : List (List D)) (i : Nat), (downF f l m i).1.length = l.length
 | 0, _, _ => rfl
 | f + 1, l, i => by
   simp only [downF]
   split
   ·rfl
   ·rw [len_down m f, len_swap]
theorem len_up : ∀ (f : Nat) (l : List (List D)) (j : Nat), (upF f l j).length = l.length
 | 0, _, _ => rfl
 | f + 1, l, j => by
   simp only [upF]
   split
   ·rfl
   ·rw [len_up f, len_swap]
theorem len_pop (l : List (List D)) (n : Nat) : (popR l n).length = l.length := by rw [popR, len_down, len_swap]
theorem ok141 (n : Nat) : FnOKW C (n + 3) 141 (mkFW s141 G141) := by
 refine fn_ofW hC (sp := sp141) (lp := lp141) (sw := sw141) ⟨ok168 (n + 1), trivial⟩ ⟨ok145 n, ok170 (n + 1), trivial⟩ (by kernel_rfl) [] (by kernel_rfl) rfl (fun k hk => by cases hk) fun ds r h => ?_
 unfold G141 at h
 split at h
 ·rename_i v t m l
  obtain ⟨hp, h⟩ := need_some h
  rw [yes_iff] at hp
  obtain ⟨h1, h2⟩ := hp
  refine (congrArg T.run (t141 v t m l)).trans ?_
  simp only [Int.toNat_natCast]
  have hlen : (l.L.take m.I.toNat ++ [[D.i v.I, D.i t.I]]).length = m.I.toNat + 1 := by rw [List.length_append, List.length_take]; simp; omega
  have ht : (List.take (m.I.toNat + 1) (l.L.take m.I.toNat ++ [[D.i v.I, D.i t.I]])).length = m.I.toNat + 1 := by rw [List.length_take, hlen]; omega
  simp only [ht, hlen]
  rw [wrap_id (by omega) (by omega), show ((m.I.toNat + 1 : Nat) : Int) - 1 = (m.I.toNat : Int) by omega]
  simp only [Int.toNat_natCast]
  exact go_yes ⟨h1, h2⟩ (go_need (by simp) (go_yes ⟨by omega, by omega, by omega, by omega⟩ h))
 ·cases h
theorem ok173 (n : Nat) : FnOKW C (n + 3) 173 (mkFW s173 G173) := by
 refine fn_ofW hC (sp := sp173) (lp := lp173) (sw := sw173) ⟨ok168 (n + 1), trivial⟩ ⟨ok174 n, ok171 (n + 1), ok176 (n + 1), trivial⟩ (by kernel_rfl) [] (by kernel_rfl) rfl (fun k hk => by cases hk) fun ds r h => ?_
 unfold G173 at h
 split at h
 ·rename_i m l
  obtain ⟨hp, h⟩ := need_some h
  rw [yes_iff] at hp
  obtain ⟨h1, h2, h3⟩ := hp
  refine (congrArg T.run (t173 m l)).trans ?_
  simp only [Int.toNat_natCast]
  have ht : (List.take m.I.toNat l.L).length = m.I.toNat := by rw [List.length_take]; omega
  simp only [ht]
  rw [wrap_id (by omega) (by omega), show (m.I.toNat : Int) - 1 = ((m.I.toNat - 1 : Nat) : Int) by omega]
  simp only [Int.toNat_natCast]
  have hm : m.I.toNat - 1 + 1 = m.I.toNat := by omega
  simp only [hm]
  refine go_need (by simp; omega) (go_yes ⟨by omega, by omega, h2⟩ (go_yes ⟨by omega, by omega, by omega, by rw [len_swap]; omega, by omega⟩ (go_yes ⟨h1, by rw [len_down, len_swap]; omega, h3⟩ ?_)))
  exact h
 ·cases h
theorem ok172 (n : Nat) : FnOKW C (n + 4) 172 (mkFW s172 G172) := by
 refine fn_ofW hC (sp := sp172) (lp := lp172) (sw := sw172) trivial ⟨ok173 n, trivial⟩ (by kernel_rfl) [] (by kernel_rfl) rfl (fun k hk => by cases hk) fun ds r h => ?_
 unfold G172 G173 at h
 split at h
 ·rename_i m l
  obtain ⟨hp, h⟩ := need_some h
  rw [yes_iff] at hp
  refine (congrArg T.run (t172 m l)).trans ?_
  simp only [Int.toNat_natCast]
  exact go_yes hp h
 ·cases h
set_option maxRecDepth 100000
theorem entF_okS {l : List (List D)} {c : Int} (hl : okC l) : ∀ (k i : Nat) (s : Int), okS s → okS (entF l c i k s)
 | 0, _, _, h => h
 | k + 1, i, s, h => by
   simp only [entF]
   split
   ·exact entF_okS hl k _ _ (okS_of hl)
   ·exact entF_okS hl k _ _ h
theorem nextF_step {r : List (List D)} {v t : Int} {j : Nat} (hj : j < r.length) : nextF r v t j (r.length - j) = if ix (r.getD j []) 0 = v then [.i (ix (r.getD j []) 1), .i (entW (r.getD j []) t + ix (r.getD j []) 2)] :: nextF r v t (j + 1) (r.length - (j + 1)) else nextF r v t (j + 1) (r.length - (j + 1)) := by
 rw [show r.length - j = (r.length - (j + 1)) + 1 by omega]
 rfl
theorem ok121_1 (q n : Nat) : LoopSimY C (n + 1) 2 121 (loopOf C.P 121 1) (some y121) q (mkLY 2 l121_1 (G121_1 q)) := by
 refine loop_ofY hC (sp := sp121) (lp := lp121 q) (sw := sw121) (Y := y121) (yOK_mk _ _ _) ⟨ok87 n, trivial⟩ trivial 2 [] (by kernel_rfl) rfl (by kernel_rfl) (fun k hk => by cases hk) (by kernel_rfl) (fun ds => ((ds.getD 2 default).I - (ds.getD 3 default).I).toNat) fun ds rr h => ?_
 unfold G121_1 at h
 split at h
 ·rename_i g r m i v t
  obtain ⟨hp, h⟩ := need_some h
  rw [yes_iff] at hp
  obtain ⟨hr, ht, hm, hi0, hi1, hg⟩ := hp
  have hrl := hr.1
  refine ⟨by rw [fuelC]; simp; omega, ?_⟩
  rw [show roundTY C (mkTabY sp121 (lp121 q) sw121 y121 q) 121 (loopOf C.P 121 1) 2 l121_1 [g, r, m, i, v, t] = _ from t121_1 q g r m i v t]
  obtain ⟨j, hj⟩ : ∃ j : Nat, i.I = j := ⟨i.I.toNat, by omega⟩
  have hq : (tab121 q).q = q := rfl
  simp only [hj, hm, Int.toNat_natCast, ix_def, lx_def, Nat.reduceAdd, hq] at h hi0 hi1 ⊢
  have hnext : ∀ {G' : List (List D)}, G'.length ≤ q → ((T.ite (decide (q < G'.length + (nextF r.L v.I t.I (j + 1) (r.L.length - (j + 1))).length)) (T.leaf (Ex.ret, [D.l (G' ++ (nextF r.L v.I t.I (j + 1) (r.L.length - (j + 1))).take (q + 1 - G'.length)), D.i v.I, D.i t.I]))
      (T.leaf (Ex.exit 0, [D.l (G' ++ nextF r.L v.I t.I (j + 1) (r.L.length - (j + 1))), D.i v.I, D.i t.I]))).run = some rr) → j < r.L.length → (G121_1 q [D.l G', D.l r.L, D.i (r.L.length : Int), D.i ((j + 1 : Nat) : Int), D.i v.I, D.i t.I]).run = some rr := fun {G'} hG' h hlt => by
   refine (need_yes ⟨hr, ht, by simp only [I_i, L_l], by simp only [I_i]; omega, by simp only [I_i, L_l]; omega, hG'⟩).trans ?_
   simp only [I_i, L_l, Int.toNat_natCast]
   exact h
  have hmu : j < r.L.length → ((r.L.length : Int) - ((j + 1 : Nat) : Int)).toNat < (m.I - i.I).toNat := fun _ => by rw [hj, hm]; omega
  refine rd_if (fun hlt => ?_) fun hge => ?_
  ·have hlt : j < r.L.length := by omega
   rw [nextF_step hlt] at h
   obtain ⟨hs, hc⟩ := hr.2 j hlt
   have he := entF_okS (c := ix (r.L.getD j []) 2) hc (lx (r.L.getD j []) 3).length 0 t.I ht
   unfold okS okT at *
   rw [wrap_succ (by omega)]
   refine rd_dec (by omega) (rd_ite (fun c1 => ?_) fun c1 => ?_)
   ·rw [beq_iff_eq] at c1
    rw [if_pos c1] at h
    simp only [List.length_cons] at h
    rw [wrap_id (by omega) (by omega)]
    refine rd_yes ⟨hs, ht, hc⟩ (rd_ite (fun c2 => ?_) fun c2 => ?_)
    ·rw [Bool.not_not] at c2
     have c2 : g.L.length = q := by simpa using c2
     rw [run_ite, if_pos (by simp; omega)] at h
     rw [show q + 1 - g.L.length = 1 by omega] at h
     exact rd_out h
    ·rw [Bool.not_not] at c2
     have c2 : g.L.length ≠ q := by
      have : ¬ (g.L.length == q) = true := by rw [show (g.L.length == q) = false from c2]; simp
      simpa using this
     refine rd_again (hnext (by simp; omega) ?_ hlt) (hmu hlt)
     simp only [List.length_append, List.length_cons, List.length_nil, List.append_nil, List.append_assoc, List.cons_append, List.nil_append]
     rw [show q + 1 - g.L.length = (q + 1 - (g.L.length + (0 + 1))) + 1 by omega, List.take_succ_cons] at h
     rw [show g.L.length + (0 + 1) + (nextF r.L v.I t.I (j + 1) (r.L.length - (j + 1))).length = g.L.length + ((nextF r.L v.I t.I (j + 1) (r.L.length - (j + 1))).length + 1) by omega]
     exact h
   ·rw [beq_eq_false_iff_ne] at c1
    rw [if_neg c1] at h
    exact rd_again (hnext hg h hlt) (hmu hlt)
  ·rw [show r.L.length - j = 0 by omega] at h
   simp only [nextF, List.length_nil, List.append_nil] at h
   rw [run_ite] at h
   split at h
   ·rename_i hc
    have := of_decide_eq_true hc
    omega
   ·exact rd_out h
 ·cases h
theorem ok121 (n : Nat) : IterOK C (n + 2) 121 y121 (mkFY s121 G121) := by
 refine iter_of hC (sp := sp121) (lp := lp121) (sw := sw121) (Y := y121) (yOK_mk _ _ _) ⟨ok87 n, trivial⟩ trivial (by kernel_rfl) [1] (by kernel_rfl) (by kernel_rfl) (by kernel_rfl) (fun q k hk L hL => by
  simp at hk; subst hk; cases hL; exact ok121_1 q n) fun ds L h q => ?_
 unfold G121 at h
 split at h
 ·rename_i n' r v t
  obtain ⟨hp, h⟩ := need_some h
  rw [yes_iff] at hp
  cases h
  refine (congrArg T.run (t121 q n' r v t)).trans (go_yes ⟨hp.1, hp.2, rfl, by omega, by omega, by simp⟩ (go_if (fun c => ?_) fun c => ?_))
  ·simp only [List.nil_append, List.length_nil, Nat.sub_zero, run_leaf]
   rfl
  ·have c : ¬ q < (nextF r.L v.I t.I 0 r.L.length).length := fun h => c (by simpa using h)
   simp only [List.nil_append, run_leaf]
   rw [List.take_of_length_le (by omega)]
   rfl
 ·cases h
noncomputable def it119_14 : ItL := [(121, mkFY s121 G121)]
noncomputable def sp119 : SpL := [(168, mkF s168 G168)]
noncomputable def lp119 : LpL := [(3, mkL l119_3 G119_3), (9, mkL l119_9 G119_9)]
noncomputable def sw119 : SwL := [(141, mkFW s141 G141), (120, mkFW s120 G120), (172, mkFW s172 G172)]
noncomputable def rg119 : LpL := [(14, rangeS 0 [2, 6, 7, 9, 51] (rangeOf C.P 119 14).1 it119_14 h119_14 G119_14)]
noncomputable def tab119 : Tab := mkTabR sp119 lp119 sw119 rg119
noncomputable def sp84 : SpL := [(119, mkF s119 G119)]
noncomputable def lp84 : LpL := [(3, mkL l84_3 G84_3)]
noncomputable def sw84 : SwL := [(120, mkFW s120 G120)]
noncomputable def tab84 : Tab := mkTab sp84 lp84 sw84
set_option linter.unusedVariables false
set_option maxRecDepth 100000
theorem t119 (a b c d e : D) : fnT C tab119 119 s119 [a, b, c, d, e] =
 T.need (decide ((0 : Int) ≤ a.I ∧ a.I = a.I ∧ a.I ≤ (2 : Int) ^ 40 ∧ (↑Try.prog.types[3].bytes : Int) * a.I ≤ (2 : Int) ^ 46)) (T.need (yes ((↑(List.length (List.replicate a.I.toNat [D.i 0])) : Int) = (↑(Int.toNat (↑(List.length (List.replicate a.I.toNat [D.i 0])) : Int)) : Int) ∧ Int.toNat (↑(List.length (List.replicate a.I.toNat [D.i 0])) : Int) ≤ List.length (List.replicate a.I.toNat [D.i 0]) ∧ (0 : Int) ≤ (0 : Int) ∧ (0 : Int) ≤ (↑(List.length (List.replicate a.I.toNat [D.i 0])) : Int) ∧ (↑(List.length (List.replicate a.I.toNat [D.i 0])) : Int) < (1099511627776 : Int))) (T.need (decide ((0 : Int) ≤ b.I ∧ b.I < (↑(Int.toNat (↑(Int.toNat (↑(List.length (List.replicate a.I.toNat [D.i 0])) : Int)) : Int)) : Int))) (T.need (decide (b.I.toNat < List.length (fillF (9223372036854775807 : Int) (Int.toNat (0 : Int)) (Int.toNat (↑(List.length (List.replicate a.I.toNat [D.i 0])) : Int) - Int.toNat (0 : Int)) (List.replicate a.I.toNat [D.i 0])))) (T.need (yes (haltS (Int.toNat (↑(Int.toNat (↑(Int.toNat (↑(List.length (List.replicate a.I.toNat [D.i 0])) : Int)) : Int)) : Int)) e.L (mkSr (D.l (List.set (fillF (9223372036854775807 : Int) (Int.toNat (0 : Int)) (Int.toNat (↑(List.length (List.replicate a.I.toNat [D.i 0])) : Int) - Int.toNat (0 : Int)) (List.replicate a.I.toNat [D.i 0])) b.I.toNat (updC (List.getD (fillF (9223372036854775807 : Int) (Int.toNat (0 : Int)) (Int.toNat (↑(List.length (List.replicate a.I.toNat [D.i 0])) : Int) - Int.toNat (0 : Int)) (List.replicate a.I.toNat [D.i 0])) b.I.toNat []) [D.i c.I] 0 0 (List.length [K.int IntKind.i64])))) (D.i (↑(List.length [[D.i b.I, D.i c.I]]) : Int)) (D.l [[D.i b.I, D.i c.I]])))) (T.leaf [D.i (↑(Int.toNat (↑(Int.toNat (↑(Int.toNat (↑(Int.toNat (↑(List.length (List.replicate a.I.toNat [D.i 0])) : Int)) : Int)) : Int)) : Int)) : Int), D.l (resS (Int.toNat (↑(Int.toNat (↑(Int.toNat (↑(List.length (List.replicate a.I.toNat [D.i 0])) : Int)) : Int)) : Int)) e.L (mkSr (D.l (List.set (fillF (9223372036854775807 : Int) (Int.toNat (0 : Int)) (Int.toNat (↑(List.length (List.replicate a.I.toNat [D.i 0])) : Int) - Int.toNat (0 : Int)) (List.replicate a.I.toNat [D.i 0])) b.I.toNat (updC (List.getD (fillF (9223372036854775807 : Int) (Int.toNat (0 : Int)) (Int.toNat (↑(List.length (List.replicate a.I.toNat [D.i 0])) : Int) - Int.toNat (0 : Int)) (List.replicate a.I.toNat [D.i 0])) b.I.toNat []) [D.i c.I] 0 0 (List.length [K.int IntKind.i64])))) (D.i (↑(List.length [[D.i b.I, D.i c.I]]) : Int)) (D.l [[D.i b.I, D.i c.I]])))]))))) := by kernel_rfl
theorem t119_3 (a b c d e f g h : D) : roundT C tab119 119 (loopOf C.P 119 3) l119_3 [a, b, c, d, e, f, g, h] =
 T.ite (decide (d.I < c.I)) (T.need (decide ((0 : Int) ≤ d.I ∧ d.I < (g.I.toNat : Int))) (T.need (decide (d.I.toNat < h.L.length)) (T.leaf (Rd.again [D.i a.I, D.l b.L, D.i c.I, D.i (IntKind.i64.wrap (d.I + (1 : Int))), D.i e.I, D.i f.I, D.i (g.I.toNat : Int), D.l (List.set h.L d.I.toNat (updC (List.getD h.L d.I.toNat []) [D.i 9223372036854775807] 0 0 (List.length [K.int IntKind.i64])))])))) (T.leaf (Rd.out (Ex.exit 0) [D.i a.I, D.l b.L, D.i e.I, D.i f.I, D.i (g.I.toNat : Int), D.l h.L])) := by kernel_rfl
theorem t119_9 (a b c d e f : D) : roundT C tab119 119 (loopOf C.P 119 9) l119_9 [a, b, c, d, e, f] =
 T.need (decide (e.I.toNat ≤ f.L.length)) (T.ite (decide ((↑(List.length (List.take e.I.toNat f.L)) : Int) > (0 : Int))) (T.need (yes (1 ≤ Int.toNat (e.I.toNat : Int) ∧ Int.toNat (e.I.toNat : Int) ≤ f.L.length ∧ Int.toNat (e.I.toNat : Int) < 1099511627776)) (T.need (decide ((0 : Int) ≤ ix (List.getD (popR f.L (Int.toNat (e.I.toNat : Int))) (Int.toNat (e.I.toNat : Int) - 1) []) 0 ∧ ix (List.getD (popR f.L (Int.toNat (e.I.toNat : Int))) (Int.toNat (e.I.toNat : Int) - 1) []) 0 < (c.I.toNat : Int))) (T.need (decide (Int.toNat (ix (List.getD (popR f.L (Int.toNat (e.I.toNat : Int))) (Int.toNat (e.I.toNat : Int) - 1) []) 0) < d.L.length)) (T.ite (decide (ix (List.getD (popR f.L (Int.toNat (e.I.toNat : Int))) (Int.toNat (e.I.toNat : Int) - 1) []) 1 > D.I (List.getD (List.getD d.L (Int.toNat (ix (List.getD (popR f.L (Int.toNat (e.I.toNat : Int))) (Int.toNat (e.I.toNat : Int) - 1) []) 0)) []) 0 default))) (T.leaf (Rd.again [D.i a.I, D.l b.L, D.i (c.I.toNat : Int), D.l d.L, D.i (↑(Int.toNat (↑(Int.toNat (e.I.toNat : Int) - 1) : Int)) : Int), D.l (popR f.L (Int.toNat (e.I.toNat : Int)))])) (T.need (yes (okR b.L ∧ okS (ix (List.getD (popR f.L (Int.toNat (e.I.toNat : Int))) (Int.toNat (e.I.toNat : Int) - 1) []) 1))) (T.need (yes (Int.toNat (c.I.toNat : Int) ≤ d.L.length ∧ Int.toNat (↑(Int.toNat (↑(Int.toNat (e.I.toNat : Int) - 1) : Int)) : Int) ≤ List.length (popR f.L (Int.toNat (e.I.toNat : Int))) ∧ Int.toNat (↑(Int.toNat (↑(Int.toNat (e.I.toNat : Int) - 1) : Int)) : Int) + List.length (nextF b.L (ix (List.getD (popR f.L (Int.toNat (e.I.toNat : Int))) (Int.toNat (e.I.toNat : Int) - 1) []) 0) (ix (List.getD (popR f.L (Int.toNat (e.I.toNat : Int))) (Int.toNat (e.I.toNat : Int) - 1) []) 1) 0 b.L.length) < 549755813888 ∧ ∀ (e_1 : List D), e_1 ∈ nextF b.L (ix (List.getD (popR f.L (Int.toNat (e.I.toNat : Int))) (Int.toNat (e.I.toNat : Int) - 1) []) 0) (ix (List.getD (popR f.L (Int.toNat (e.I.toNat : Int))) (Int.toNat (e.I.toNat : Int) - 1) []) 1) 0 b.L.length → (0 : Int) ≤ ix e_1 0 ∧ ix e_1 0 < (↑(Int.toNat (c.I.toNat : Int)) : Int))) (T.leaf (Rd.again [D.i a.I, D.l b.L, D.i (↑(Int.toNat (↑(Int.toNat (c.I.toNat : Int)) : Int)) : Int), D.l (relF (nextF b.L (ix (List.getD (popR f.L (Int.toNat (e.I.toNat : Int))) (Int.toNat (e.I.toNat : Int) - 1) []) 0) (ix (List.getD (popR f.L (Int.toNat (e.I.toNat : Int))) (Int.toNat (e.I.toNat : Int) - 1) []) 1) 0 b.L.length) (mkSr (D.l d.L) (D.i (↑(Int.toNat (↑(Int.toNat (e.I.toNat : Int) - 1) : Int)) : Int)) (D.l (popR f.L (Int.toNat (e.I.toNat : Int)))))).o, D.i (↑(Int.toNat (↑(relF (nextF b.L (ix (List.getD (popR f.L (Int.toNat (e.I.toNat : Int))) (Int.toNat (e.I.toNat : Int) - 1) []) 0) (ix (List.getD (popR f.L (Int.toNat (e.I.toNat : Int))) (Int.toNat (e.I.toNat : Int) - 1) []) 1) 0 b.L.length) (mkSr (D.l d.L) (D.i (↑(Int.toNat (↑(Int.toNat (e.I.toNat : Int) - 1) : Int)) : Int)) (D.l (popR f.L (Int.toNat (e.I.toNat : Int)))))).k : Int)) : Int), D.l (relF (nextF b.L (ix (List.getD (popR f.L (Int.toNat (e.I.toNat : Int))) (Int.toNat (e.I.toNat : Int) - 1) []) 0) (ix (List.getD (popR f.L (Int.toNat (e.I.toNat : Int))) (Int.toNat (e.I.toNat : Int) - 1) []) 1) 0 b.L.length) (mkSr (D.l d.L) (D.i (↑(Int.toNat (↑(Int.toNat (e.I.toNat : Int) - 1) : Int)) : Int)) (D.l (popR f.L (Int.toNat (e.I.toNat : Int)))))).q])))))))) (T.leaf (Rd.out (Ex.exit 2) [D.i (c.I.toNat : Int), D.l d.L]))) := by kernel_rfl
theorem t119_r14 (a b c d e f g h i j : D) : roundRT C tab119 119 (rangeOf C.P 119 14) 0 5 [2, 6, 7, 9, 51] h119_14 y121 [a, b, c, d, e, f, g, h] [i, j] =
 T.need (decide ((0 : Int) ≤ i.I ∧ i.I < (e.I.toNat : Int))) (T.need (decide (i.I.toNat < f.L.length)) (T.ite (decide (j.I < D.I (List.getD (List.getD f.L i.I.toNat []) 0 default))) (T.need (decide ((0 : Int) ≤ i.I ∧ i.I < (e.I.toNat : Int))) (T.need (decide (i.I.toNat < f.L.length)) (T.need (yes (Int.toNat (g.I.toNat : Int) ≤ h.L.length ∧ Int.toNat (g.I.toNat : Int) < 1099511627776)) (T.leaf (Rd.again [D.i a.I, D.l b.L, D.i c.I, D.l d.L, D.i (e.I.toNat : Int), D.l (List.set f.L i.I.toNat (updC (List.getD f.L i.I.toNat []) [D.i j.I] 0 0 (List.length [K.int IntKind.i64]))), D.i (↑(Int.toNat (↑(Int.toNat (g.I.toNat : Int) + 1) : Int)) : Int), D.l (pushR h.L (Int.toNat (g.I.toNat : Int)) i.I j.I)], []))))) (T.leaf (Rd.again [D.i a.I, D.l b.L, D.i c.I, D.l d.L, D.i (e.I.toNat : Int), D.l f.L, D.i (g.I.toNat : Int), D.l h.L], [])))) := by kernel_rfl
theorem t84 (a b c d : D) : fnT C tab84 84 s84 [a, b, c, d] =
 T.need (yes ((0 : Int) ≤ a.I ∧ a.I < (1099511627776 : Int) ∧ (0 : Int) ≤ c.I ∧ c.I < a.I ∧ haltS a.I.toNat b.L (startS a.I c.I d.I))) (T.need (yes ((a.I.toNat : Int) = (↑(Int.toNat (a.I.toNat : Int)) : Int) ∧ Int.toNat (a.I.toNat : Int) = Int.toNat (a.I.toNat : Int) ∧ Int.toNat (a.I.toNat : Int) ≤ List.length (resS a.I.toNat b.L (startS a.I c.I d.I)) ∧ (0 : Int) ≤ (0 : Int) ∧ (0 : Int) ≤ (a.I.toNat : Int) ∧ (a.I.toNat : Int) < (1099511627776 : Int))) (T.leaf [D.i (↑(Int.toNat (↑(Int.toNat (a.I.toNat : Int)) : Int)) : Int), D.l (noneF (Int.toNat (0 : Int)) (Int.toNat (a.I.toNat : Int) - Int.toNat (0 : Int)) (resS a.I.toNat b.L (startS a.I c.I d.I)))])) := by kernel_rfl
theorem t84_3 (a b c d e : D) : roundT C tab84 84 (loopOf C.P 84 3) l84_3 [a, b, c, d, e] =
 T.ite (decide (d.I < c.I)) (T.need (decide ((0 : Int) ≤ d.I ∧ d.I < (b.I.toNat : Int))) (T.need (decide (d.I.toNat < e.L.length)) (T.ite (D.I (List.getD (List.getD e.L d.I.toNat []) 0 default) == (9223372036854775807 : Int)) (T.need (decide ((0 : Int) ≤ d.I ∧ d.I < (a.I.toNat : Int))) (T.need (decide (d.I.toNat < e.L.length)) (T.leaf (Rd.again [D.i (a.I.toNat : Int), D.i (b.I.toNat : Int), D.i c.I, D.i (IntKind.i64.wrap (d.I + (1 : Int))), D.l (List.set e.L d.I.toNat (updC (List.getD e.L d.I.toNat []) [D.i (-1 : Int)] 0 0 (List.length [K.int IntKind.i64])))])))) (T.leaf (Rd.again [D.i (a.I.toNat : Int), D.i (b.I.toNat : Int), D.i c.I, D.i (IntKind.i64.wrap (d.I + (1 : Int))), D.l e.L]))))) (T.leaf (Rd.out (Ex.exit 0) [D.i (a.I.toNat : Int), D.l e.L])) := by kernel_rfl
set_option maxRecDepth 100000
theorem ok119_3 (n : Nat) : LoopSim C (n + 4) 119 (loopOf C.P 119 3) (mkL l119_3 G119_3) := by
 refine loop_ofR hC (sp := sp119) (lp := lp119) (sw := sw119) (rg := rg119) ⟨ok168 (n + 3), trivial⟩ ⟨ok141 (n + 1), ok120 (n + 3), ok172 n, trivial⟩ 0 [] [] (by kernel_rfl) rfl (by kernel_rfl) rfl (fun k hk => by cases hk) (fun k hk => by cases hk) (by kernel_rfl) (fun ds => ((ds.getD 2 default).I - (ds.getD 3 default).I).toNat) fun ds rr h => ?_
 unfold G119_3 at h
 split at h
 ·rename_i a r m i x y k l
  obtain ⟨hp, h⟩ := need_some h
  rw [yes_iff] at hp
  obtain ⟨hm, hk, hi0, hi1, hm2⟩ := hp
  refine ⟨by rw [fuelC]; simp; omega, ?_⟩
  rw [show roundTK C (mkTabR sp119 lp119 sw119 rg119) 119 (loopOf C.P 119 3) 0 l119_3 [a, r, m, i, x, y, k, l] = _ from t119_3 a r m i x y k l]
  obtain ⟨j, hj⟩ : ∃ j : Nat, i.I = j := ⟨i.I.toNat, by omega⟩
  simp only [hj, hm, Int.toNat_natCast, upd1, rs_def] at h hi0 hi1 hm2 ⊢
  refine rd_if (fun hlt => ?_) fun hge => ?_
  ·rw [wrap_succ (by omega)]
   rw [show k.I.toNat - j = (k.I.toNat - (j + 1)) + 1 by omega] at h
   refine rd_dec (by omega) (rd_dec (by omega) (rd_again ((need_yes ⟨by simp only [I_i, Int.toNat_natCast], by simp only [I_i, L_l, Int.toNat_natCast, len_rs]; exact hk, by simp only [I_i]; omega, by simp only [I_i]; omega, by simp only [I_i]; omega⟩).trans ?_) ?_))
   ·simp only [I_i, L_l, Int.toNat_natCast]
    exact h
   ·show ((k.I.toNat : Int) - ((j + 1 : Nat) : Int)).toNat < (m.I - i.I).toNat
    rw [hj, hm]; omega
  ·rw [show k.I.toNat - j = 0 by omega] at h
   exact rd_out h
 ·cases h
theorem rel_len : ∀ (L : List (List D)) (s : Sr), (relF L s).o.length = s.o.length
 | [], _ => rfl
 | e :: es, s => by
   simp only [relF]
   split
   ·rw [rel_len es, len_rs]
   ·exact rel_len es s
theorem len_push (l : List (List D)) {n : Nat} (v t : Int) (h : n ≤ l.length) : (pushR l n v t).length = n + 1 := by
 unfold pushR
 rw [len_up, List.length_append, List.length_take]
 simp
 omega
theorem head75 (e : List D) : y121.head e = y121.head [e.getD 0 default, e.getD 1 default] := by
 match e with
 | [] => rfl
 | [_] => rfl
 | _ :: _ :: _ => rfl
theorem fold73 (L : List (List D)) : ∀ (ds : List D) (rr : Ex × List D), (G119_14 L ds).run = some rr → FoldR (fun ds el => (roundRT C tab119 119 (rangeOf C.P 119 14) 0 5 [2, 6, 7, 9, 51] h119_14 y121 ds el).run) y121.give (fun a b => headA h119_14 a = headA h119_14 b) ds L rr.1 rr.2 := by
 induction L with
 | nil =>
   intro ds rr h
   unfold G119_14 at h
   split at h
   ·rename_i a r a' r' m o k q
    obtain ⟨-, h⟩ := need_some h
    cases h
    exact .nil (by rfl)
   ·cases h
 | cons e es ih =>
   intro ds rr h
   unfold G119_14 at h
   split at h
   ·rename_i a r a' r' m o k q
    obtain ⟨hp, h⟩ := need_some h
    rw [yes_iff] at hp
    obtain ⟨h1, h2, h3, h4⟩ := hp
    simp only [List.length_cons] at h3
    obtain ⟨e1, e2⟩ := h4 e List.mem_cons_self
    have h5 : ∀ x ∈ es, 0 ≤ ix x 0 ∧ ix x 0 < (m.I.toNat : Int) := fun x hx => h4 x (List.mem_cons_of_mem _ hx)
    have key : ∀ (i j : D), i.I = ix e 0 → j.I = ix e 1 → ∃ ds', (roundRT C tab119 119 (rangeOf C.P 119 14) 0 5 [2, 6, 7, 9, 51] h119_14 y121 [a, r, a', r', m, o, k, q] [i, j]).run = some (.again ds', []) ∧ (G119_14 es ds').run = some rr := by
     intro i j hi hj
     have ht := congrArg T.run (t119_r14 a r a' r' m o k q i j)
     rw [ht]
     simp only [hi, hj, Int.toNat_natCast, upd1, rs_def, rg_def]
     by_cases hc : ix e 1 < rg o.L (ix e 0).toNat
     ·have hrel : relF (e :: es) (mkSr o k q) = relF es ⟨rs o.L (ix e 0).toNat (ix e 1), k.I.toNat + 1, pushR q.L k.I.toNat (ix e 0) (ix e 1)⟩ := by
       simp only [relF]
       exact if_pos hc
      rw [hrel] at h
      refine ⟨_, go_dec ⟨e1, e2⟩ (go_dec (by omega) (go_pos hc (go_dec ⟨e1, e2⟩ (go_dec (by omega) (go_yes ⟨h2, by omega⟩ rfl))))), ?_⟩
      refine (need_yes ⟨by simp only [I_i, L_l, Int.toNat_natCast, len_rs]; exact h1, by simp only [I_i, L_l, Int.toNat_natCast]; rw [len_push _ _ _ h2]; exact Nat.le_refl _, by simp only [I_i, Int.toNat_natCast]; omega, by simp only [I_i, Int.toNat_natCast]; exact h5⟩).trans ?_
      simp only [mkSr, I_i, L_l, Int.toNat_natCast]
      exact h
     ·have hrel : relF (e :: es) (mkSr o k q) = relF es (mkSr o k q) := by
       simp only [relF]
       exact if_neg hc
      rw [hrel] at h
      refine ⟨_, go_dec ⟨e1, e2⟩ (go_dec (by omega) (go_neg hc rfl)), ?_⟩
      refine (need_yes ⟨by simp only [I_i, L_l, Int.toNat_natCast]; exact h1, by simp only [I_i, L_l, Int.toNat_natCast]; exact h2, by simp only [I_i, Int.toNat_natCast]; omega, by simp only [I_i, Int.toNat_natCast]; exact h5⟩).trans ?_
      simp only [mkSr, I_i, L_l, Int.toNat_natCast] at h ⊢
      exact h
    obtain ⟨ds', k1, k2⟩ := key (e.getD 0 default) (e.getD 1 default) rfl rfl
    refine .again (x' := []) (ds' := ds') ?_ (fun h => by cases h) (ih _ _ k2)
    have : roundRT C tab119 119 (rangeOf C.P 119 14) 0 5 [2, 6, 7, 9, 51] h119_14 y121 [a, r, a', r', m, o, k, q] e = roundRT C tab119 119 (rangeOf C.P 119 14) 0 5 [2, 6, 7, 9, 51] h119_14 y121 [a, r, a', r', m, o, k, q] [e.getD 0 default, e.getD 1 default] := by
     unfold roundRT
     rw [head75 e]
    rw [this]
    exact k1
   ·cases h
theorem ok119_14 (n : Nat) : CodeSim C (n + 4) 0 119 (rangeOf C.P 119 14).code none 0 (rangeS 0 [2, 6, 7, 9, 51] (rangeOf C.P 119 14).1 it119_14 h119_14 G119_14) :=
 range_of hC (sp := sp119) (lp := lp119) (sw := sw119) (rg := rg119) (Y := y121) (yOK_mk _ _ _) ⟨ok168 (n + 3), trivial⟩ ⟨ok141 (n + 1), ok120 (n + 3), ok172 n, trivial⟩ 14 0 5 [] (by kernel_rfl) rfl (by kernel_rfl) (by exact ⟨by kernel_rfl, by kernel_rfl⟩) (fun k hk => by cases hk)
  (by kernel_rfl) (by kernel_rfl) (it := it119_14) ⟨ok121 (n + 2), trivial⟩ fun L ds rr h => fold73 L ds rr h
theorem ends_uniq {m : Nat} {r : List (List D)} : ∀ {f g : Nat} {s : Sr}, endsS m r f s → endsS m r g s → f = g
 | 0, 0, _, _, _ => rfl
 | 0, g + 1, s, h, h' => absurd h h'.1
 | f + 1, 0, s, h, h' => absurd h' h.1
 | f + 1, g + 1, s, h, h' => by rw [ends_uniq h.2.2 h'.2.2]
theorem lenS_eq {m : Nat} {r : List (List D)} {f : Nat} {s : Sr} (h : endsS m r f s) : lenS m r s = f := ends_uniq (Classical.epsilon_spec (p := fun f => endsS m r f s) ⟨f, h⟩) h
theorem resS_eq {m : Nat} {r : List (List D)} {f : Nat} {s : Sr} (h : endsS m r f s) : resS m r s = runSr r f s := by unfold resS; rw [lenS_eq h]
theorem halt_zero {m : Nat} {r : List (List D)} {s : Sr} (hk : s.k = 0) : resS m r s = s.o ∧ lenS m r s = 0 := by
 have : endsS m r 0 s := hk
 exact ⟨resS_eq this, lenS_eq this⟩
theorem halt_step {m : Nat} {r : List (List D)} {s : Sr} (h : haltS m r s) (hk : s.k ≠ 0) : needS m r s ∧ haltS m r (stepS r s) ∧ resS m r s = resS m r (stepS r s) ∧ lenS m r (stepS r s) < lenS m r s ∧ lenS m r s < 9223372036854775808 := by
 obtain ⟨f, hf, he⟩ := h
 cases f with
 | zero => exact absurd he hk
 | succ f =>
   have he' := he
   obtain ⟨-, h1, h2⟩ := he
   exact ⟨h1, ⟨f, by omega, h2⟩, by rw [resS_eq he', resS_eq h2]; rfl, by rw [lenS_eq he', lenS_eq h2]; omega, by rw [lenS_eq he']; exact hf⟩
theorem next_mem {r : List (List D)} {v t : Int} : ∀ (k i : Nat) {e : List D}, e ∈ nextF r v t i k → ∃ j, i ≤ j ∧ j < i + k ∧ ix e 0 = ix (r.getD j []) 1 ∧ ix (r.getD j []) 0 = v ∧ ix e 1 = entW (r.getD j []) t + ix (r.getD j []) 2
 | 0, _, _, h => by cases h
 | k + 1, i, e, h => by
   simp only [nextF] at h
   split at h
   ·rename_i hc
    rcases List.mem_cons.1 h with rfl | h
    ·exact ⟨i, Nat.le_refl _, by omega, rfl, hc, rfl⟩
    ·obtain ⟨j, h1, h2, h3⟩ := next_mem k (i + 1) h
     exact ⟨j, by omega, by omega, h3⟩
   ·obtain ⟨j, h1, h2, h3⟩ := next_mem k (i + 1) h
    exact ⟨j, by omega, by omega, h3⟩
theorem next_len {r : List (List D)} {v t : Int} : ∀ (k i : Nat), (nextF r v t i k).length ≤ k
 | 0, _ => Nat.le_refl _
 | k + 1, i => by
   simp only [nextF]
   have := next_len (r := r) (v := v) (t := t) k (i + 1)
   split
   ·simp only [List.length_cons]; omega
   ·omega
theorem ok119_9 (n : Nat) : LoopSim C (n + 4) 119 (loopOf C.P 119 9) (mkL l119_9 G119_9) := by
 refine loop_ofR hC (sp := sp119) (lp := lp119) (sw := sw119) (rg := rg119) ⟨ok168 (n + 3), trivial⟩ ⟨ok141 (n + 1), ok120 (n + 3), ok172 n, trivial⟩ 0 [] [14] (by kernel_rfl) rfl (by kernel_rfl) (by kernel_rfl) (fun k hk => by cases hk)
  (fun k hk L hL => by simp at hk; subst hk; cases hL; exact ok119_14 n) (by kernel_rfl) (fun ds => lenS (ds.getD 2 default).I.toNat (ds.getD 1 default).L (mkSr (ds.getD 3 default) (ds.getD 4 default) (ds.getD 5 default))) fun ds rr h => ?_
 unfold G119_9 at h
 split at h
 ·rename_i a r m o k q
  obtain ⟨hp, h⟩ := need_some h
  rw [yes_iff] at hp
  have hlt : lenS m.I.toNat r.L (mkSr o k q) < 9223372036854775808 := by
   by_cases hk : (mkSr o k q).k = 0
   ·rw [(halt_zero hk).2]; omega
   ·exact (halt_step hp hk).2.2.2.2
  refine ⟨by rw [fuelC]; exact Nat.lt_trans hlt (by omega), ?_⟩
  rw [show roundTK C (mkTabR sp119 lp119 sw119 rg119) 119 (loopOf C.P 119 9) 0 l119_9 [a, r, m, o, k, q] = _ from t119_9 a r m o k q]
  simp only [Int.toNat_natCast, rg_def]
  by_cases hk : k.I.toNat = 0
  ·rw [(halt_zero (m := m.I.toNat) (r := r.L) (s := mkSr o k q) hk).1] at h
   refine rd_dec (by omega) (rd_neg (by rw [hk]; simp) (rd_out h))
  ·obtain ⟨hN, h1, h2, h3, -⟩ := halt_step hp hk
   obtain ⟨n1, n2, n3, n4, n5, n6, n7, n8⟩ := hN
   rw [h2] at h
   generalize hS : mkSr o k q = S at *
   have hSk : S.k = k.I.toNat := by rw [← hS]; rfl
   have hSq : S.q = q.L := by rw [← hS]; rfl
   have hSo : S.o = o.L := by rw [← hS]; rfl
   have hV : ix ((popR q.L k.I.toNat).getD (k.I.toNat - 1) []) 0 = takeV S := by unfold takeV; rw [hSk, hSq]
   have hT : ix ((popR q.L k.I.toNat).getD (k.I.toNat - 1) []) 1 = takeT S := by unfold takeT; rw [hSk, hSq]
   simp only [hV, hT]
   rw [hSq, hSk] at n1
   rw [hSk] at n2
   rw [hSo] at n3
   have hlt1 : (List.take k.I.toNat q.L).length = k.I.toNat := by rw [List.length_take]; omega
   refine rd_dec n1 (rd_pos (by rw [hlt1]; omega) (rd_yes ⟨by omega, n1, by omega⟩ (rd_dec n4 (rd_dec (by omega) (rd_if (fun c => ?_) fun c => ?_)))))
   ·have hst : stepS r.L S = mkSr (D.l o.L) (D.i ((k.I.toNat - 1 : Nat) : Int)) (D.l (popR q.L k.I.toNat)) := by
     unfold stepS
     rw [if_pos (by rw [hSo]; exact c), hSo, hSk, hSq]
     rfl
    refine rd_again ((need_yes (by rw [← hst]; exact h1)).trans ?_) (by
     show lenS m.I.toNat r.L (mkSr (D.l o.L) (D.i ((k.I.toNat - 1 : Nat) : Int)) (D.l (popR q.L k.I.toNat))) < lenS m.I.toNat r.L (mkSr o k q)
     rw [← hst, hS]; exact h3)
    rw [← hst]
    exact h
   ·have hst : stepS r.L S = relF (nextF r.L (takeV S) (takeT S) 0 r.L.length) (mkSr (D.l o.L) (D.i ((k.I.toNat - 1 : Nat) : Int)) (D.l (popR q.L k.I.toNat))) := by
     unfold stepS
     rw [if_neg (by rw [hSo]; exact c), hSo, hSk, hSq]
     rfl
    have hnl := next_len (r := r.L) (v := takeV S) (t := takeT S) r.L.length 0
    refine rd_yes ⟨n6, n5⟩ (rd_yes ⟨n3, by rw [len_pop]; omega, by omega, fun e he => ?_⟩ ?_)
    ·obtain ⟨j, -, hj, e1, -⟩ := next_mem _ _ he
     rw [e1]
     exact n8 j (by omega)
    ·have hmk : ∀ s : Sr, mkSr (D.l s.o) (D.i (s.k : Int)) (D.l s.q) = s := fun s => by simp only [mkSr, I_i, L_l, Int.toNat_natCast]
     rw [← hst]
     refine rd_again ((need_yes (by simp only [I_i, L_l, Int.toNat_natCast, hmk]; exact h1)).trans ?_) (by
      show lenS m.I.toNat r.L (mkSr (D.l (stepS r.L S).o) (D.i ((stepS r.L S).k : Int)) (D.l (stepS r.L S).q)) < lenS m.I.toNat r.L (mkSr o k q)
      rw [hmk, hS]; exact h3)
     simp only [I_i, L_l, Int.toNat_natCast, hmk]
     exact h
 ·cases h
theorem fill_app (v : Int) : ∀ (k : Nat) (a : List (List D)), fillF v a.length k (a ++ List.replicate k [.i 0]) = a ++ List.replicate k [.i v]
 | 0, a => by simp [fillF]
 | k + 1, a => by
   simp only [fillF]
   have : rs (a ++ List.replicate (k + 1) [D.i 0]) a.length v = (a ++ [[D.i v]]) ++ List.replicate k [D.i 0] := by
    unfold rs
    rw [List.replicate_succ, List.set_append_right _ _ (Nat.le_refl _), Nat.sub_self, List.set_cons_zero, List.append_assoc]
    rfl
   rw [this]
   have h2 := fill_app v k (a ++ [[D.i v]])
   rw [List.length_append, List.length_singleton] at h2
   rw [h2, List.replicate_succ, List.append_assoc]
   rfl
theorem fill_all (v : Int) (n : Nat) : fillF v 0 n (List.replicate n [.i 0]) = List.replicate n [.i v] := by
 have := fill_app v n []
 simpa using this
theorem ok119 (n : Nat) : FnOK C (n + 5) 119 (mkF s119 G119) := by
 have hby : Try.prog.types[3].bytes = 8 := by kernel_rfl
 refine fn_ofR hC (sp := sp119) (lp := lp119) (sw := sw119) (rg := rg119) ⟨ok168 (n + 3), trivial⟩ ⟨ok141 (n + 1), ok120 (n + 3), ok172 n, trivial⟩ (by kernel_rfl) [3, 9] [] (by kernel_rfl) (by kernel_rfl) (by kernel_rfl) rfl (fun k hk L hL => by
  simp at hk; rcases hk with rfl | rfl <;> cases hL
  ·exact ok119_3 n
  ·exact ok119_9 n) (fun k hk => by cases hk) fun ds r h => ?_
 unfold G119 at h
 split at h
 ·rename_i m v t a r'
  obtain ⟨hp, h⟩ := need_some h
  rw [yes_iff] at hp
  obtain ⟨h0, h1, h2, h3, h4⟩ := hp
  refine (congrArg T.run (t119 m v t a r')).trans ?_
  have hz : (0 : Int).toNat = 0 := rfl
  simp only [List.length_replicate, Int.toNat_natCast, hz, Nat.sub_zero, fill_all, upd1, rs_def]
  have hm : (m.I.toNat : Int) = m.I := by omega
  refine go_need (by rw [hby]; simp; omega) (go_yes ⟨trivial, Nat.le_refl _, by omega, by omega, by omega⟩ (go_dec (by omega) (go_need (by simp; omega) (go_yes h4 ?_))))
  rw [hm]
  exact h
 ·cases h
theorem run_len {r : List (List D)} : ∀ (f : Nat) (s : Sr), (runSr r f s).length = s.o.length
 | 0, _ => rfl
 | f + 1, s => by
   simp only [runSr]
   rw [run_len f]
   unfold stepS
   split
   ·rfl
   ·exact rel_len _ _
theorem none_len : ∀ (k i : Nat) (l : List (List D)), (noneF i k l).length = l.length
 | 0, _, _ => rfl
 | k + 1, i, l => by
   simp only [noneF]
   rw [none_len k]
   split
   ·exact len_rs _ _ _
   ·rfl
theorem ok84_3 (n : Nat) : LoopSim C (n + 5) 84 (loopOf C.P 84 3) (mkL l84_3 G84_3) := by
 refine loop_ofK hC (sp := sp84) (lp := lp84) (sw := sw84) ⟨ok119 n, trivial⟩ ⟨ok120 (n + 4), trivial⟩ 0 [] (by kernel_rfl) rfl (fun k hk => by cases hk) (by kernel_rfl) (fun ds => ((ds.getD 2 default).I - (ds.getD 3 default).I).toNat) fun ds rr h => ?_
 unfold G84_3 at h
 split at h
 ·rename_i m m2 k i l
  obtain ⟨hp, h⟩ := need_some h
  rw [yes_iff] at hp
  obtain ⟨h1, h2, h3, hi0, hi1, h4⟩ := hp
  refine ⟨by rw [fuelC]; simp; omega, ?_⟩
  rw [show roundTK C (mkTab sp84 lp84 sw84) 84 (loopOf C.P 84 3) 0 l84_3 [m, m2, k, i, l] = _ from t84_3 m m2 k i l]
  obtain ⟨j, hj⟩ : ∃ j : Nat, i.I = j := ⟨i.I.toNat, by omega⟩
  simp only [hj, h1, h2, Int.toNat_natCast, upd1, rs_def, rg_def] at h hi0 hi1 h4 ⊢
  refine rd_if (fun hlt => ?_) fun hge => ?_
  ·rw [wrap_succ (by omega)]
   rw [show m.I.toNat - j = (m.I.toNat - (j + 1)) + 1 by omega] at h
   simp only [noneF] at h
   have hmu : ((m.I.toNat : Int) - ((j + 1 : Nat) : Int)).toNat < (k.I - i.I).toNat := by rw [hj, h1]; omega
   refine rd_dec (by omega) (rd_dec (by omega) (rd_ite (fun c => ?_) fun c => ?_))
   ·rw [beq_iff_eq] at c
    rw [if_pos c] at h
    refine rd_dec (by omega) (rd_dec (by omega) (rd_again ((need_yes ⟨by simp only [I_i, Int.toNat_natCast], by simp only [I_i, Int.toNat_natCast], by simp only [I_i, L_l, Int.toNat_natCast, len_rs]; exact h3, by simp only [I_i]; omega, by simp only [I_i]; omega, by simp only [I_i]; omega⟩).trans ?_) hmu))
    simp only [I_i, L_l, Int.toNat_natCast]
    exact h
   ·rw [beq_eq_false_iff_ne] at c
    rw [if_neg c] at h
    refine rd_again ((need_yes ⟨by simp only [I_i, Int.toNat_natCast], by simp only [I_i, Int.toNat_natCast], by simp only [I_i, L_l, Int.toNat_natCast]; exact h3, by simp only [I_i]; omega, by simp only [I_i]; omega, by simp only [I_i]; omega⟩).trans ?_) hmu
    simp only [I_i, L_l, Int.toNat_natCast]
    exact h
  ·rw [show m.I.toNat - j = 0 by omega] at h
   exact rd_out h
 ·cases h
theorem len_start (n v t : Int) : (startS n v t).o.length = n.toNat := by simp [startS, len_rs]
theorem res_len {m : Nat} {r : List (List D)} {s : Sr} : (resS m r s).length = s.o.length := run_len _ _
theorem ok84 (n : Nat) : FnOK C (n + 6) 84 (mkF s84 G84) := by
 refine fn_ofS hC (sp := sp84) (lp := lp84) (sw := sw84) ⟨ok119 n, trivial⟩ ⟨ok120 (n + 4), trivial⟩ (by kernel_rfl) [3] (by kernel_rfl) (by kernel_rfl) (fun k hk L hL => by
  simp at hk; subst hk; cases hL; exact ok84_3 n) fun ds r h => ?_
 unfold G84 at h
 split at h
 ·rename_i m r' v t
  obtain ⟨hp, h⟩ := need_some h
  rw [yes_iff] at hp
  obtain ⟨h0, h1, h2, h3, h4⟩ := hp
  refine (congrArg T.run (t84 m r' v t)).trans ?_
  have hz : (0 : Int).toNat = 0 := rfl
  simp only [Int.toNat_natCast, hz, Nat.sub_zero]
  have hm : (m.I.toNat : Int) = m.I := by omega
  refine go_yes ⟨h0, h1, h2, h3, h4⟩ (go_yes ⟨trivial, trivial, by rw [res_len, len_start]; exact Nat.le_refl _, by omega, by omega, by omega⟩ ?_)
  rw [hm]
  exact h
 ·cases h
noncomputable def sp81 : SpL := []
noncomputable def lp81 : LpL := []
noncomputable def sw81 : SwL := []
noncomputable def tab81 : Tab := mkTab sp81 lp81 sw81
noncomputable def sp82 : SpL := [(81, mkF s81 G81)]
noncomputable def lp82 : LpL := [(4, mkL l82_4 G82_4)]
noncomputable def sw82 : SwL := []
noncomputable def tab82 : Tab := mkTab sp82 lp82 sw82
noncomputable def sp38 : SpL := [(83, mkF s83 G83)]
noncomputable def lp38 : LpL := [(4, mkL l38_4 G38_4), (10, mkL l38_10 G38_10)]
noncomputable def sw38 : SwL := []
noncomputable def tab38 : Tab := mkTab sp38 lp38 sw38
noncomputable def sp32 : SpL := [(81, mkF s81 G81), (82, mkF s82 G82)]
noncomputable def lp32 : LpL := [(4, mkL l32_4 G32_4)]
noncomputable def sw32 : SwL := []
noncomputable def tab32 : Tab := mkTab sp32 lp32 sw32
noncomputable def sp33 : SpL := [(38, mkF s38 G38), (83, mkF s83 G83), (84, mkF s84 G84)]
noncomputable def lp33 : LpL := []
noncomputable def sw33 : SwL := []
noncomputable def tab33 : Tab := mkTab sp33 lp33 sw33
noncomputable def lp3 : LpL := []
noncomputable def sw3 : SwL := []
set_option linter.unusedVariables false
set_option maxRecDepth 100000
theorem t81 (a b c : D) : fnT C tab81 81 s81 [a, b, c] =
 T.ite (decide (a.I ≥ b.I)) (T.leaf [D.b (decide (a.I ≤ c.I))]) (T.leaf [D.b false]) := by kernel_rfl
theorem t82 (a b c d e : D) : fnT C tab82 82 s82 [a, b, c, d, e] =
 T.ite (!within b.I (0 : Int) (IntKind.i64.wrap (a.I - (1 : Int)))) (T.leaf [D.b false]) (T.ite (!within c.I (0 : Int) (IntKind.i64.wrap (a.I - (1 : Int)))) (T.leaf [D.b false]) (T.ite (b.I == c.I) (T.leaf [D.b false]) (T.ite (!within d.I (1 : Int) (10000 : Int)) (T.leaf [D.b false]) (T.ite (decide ((e.L.length : Int) > (20 : Int))) (T.leaf [D.b false]) (T.need (yes (e.L.length ≤ 20 ∧ (0 : Int) ≤ (0 : Int) ∧ (0 : Int) ≤ (e.L.length : Int))) (T.ite (allFrom (clB e.L) (Int.toNat (0 : Int)) (e.L.length - Int.toNat (0 : Int))) (T.leaf [D.b true]) (T.leaf [D.b false]))))))) := by kernel_rfl
theorem t82_4 (a b c d e : D) : roundT C tab82 82 (loopOf C.P 82 4) l82_4 [a, b, c, d, e] =
 T.ite (decide (a.I < (e.L.length : Int))) (T.need (decide ((0 : Int) ≤ a.I ∧ a.I < (e.L.length : Int))) (T.ite (decide (D.I (List.getD (List.getD e.L a.I.toNat []) 0 default) < (0 : Int))) (T.leaf (Rd.out Ex.ret [D.b false])) (T.ite (decide (D.I (List.getD (List.getD e.L a.I.toNat []) 0 default) ≥ D.I (List.getD (List.getD e.L a.I.toNat []) (0 + 1) default))) (T.leaf (Rd.out Ex.ret [D.b false])) (T.ite (decide (D.I (List.getD (List.getD e.L a.I.toNat []) (0 + 1) default) > (100000 : Int))) (T.leaf (Rd.out Ex.ret [D.b false])) (T.ite (decide (a.I > (0 : Int))) (T.need (decide ((0 : Int) ≤ IntKind.i64.wrap (a.I - (1 : Int)) ∧ IntKind.i64.wrap (a.I - (1 : Int)) < (e.L.length : Int))) (T.ite (decide (D.I (List.getD (List.getD e.L a.I.toNat []) 0 default) ≤ D.I (List.getD (List.getD e.L (Int.toNat (IntKind.i64.wrap (a.I - (1 : Int)))) []) (0 + 1) default))) (T.leaf (Rd.out Ex.ret [D.b false])) (T.leaf (Rd.again [D.i (IntKind.i64.wrap (a.I + (1 : Int))), D.i b.I, D.i c.I, D.i d.I, D.l e.L])))) (T.leaf (Rd.again [D.i (IntKind.i64.wrap (a.I + (1 : Int))), D.i b.I, D.i c.I, D.i d.I, D.l e.L]))))))) (T.leaf (Rd.out (Ex.exit 0) [])) := by kernel_rfl
theorem t38 (a b : D) : fnT C tab38 38 s38 [a, b] =
 T.ite (!within a.I (1 : Int) (200 : Int)) (T.leaf [D.i 2]) (T.ite (decide ((b.L.length : Int) > (1000 : Int))) (T.leaf [D.i 2]) (T.need (yes (((1 : Int) ≤ a.I ∧ a.I ≤ (200 : Int)) ∧ b.L.length ≤ 1000 ∧ (b.L.length : Int) = (b.L.length : Int) ∧ (0 : Int) ≤ (0 : Int) ∧ (0 : Int) ≤ (b.L.length : Int))) (T.ite (allFrom (fun j => roadB a.I (List.getD b.L j [])) (Int.toNat (0 : Int)) (b.L.length - Int.toNat (0 : Int))) (T.leaf [D.i 0]) (T.leaf [D.i 2])))) := by kernel_rfl
theorem t38_4 (a b c d e : D) : roundT C tab38 38 (loopOf C.P 38 4) l38_4 [a, b, c, d, e] =
 T.ite (decide (c.I < b.I)) (T.need (decide ((0 : Int) ≤ c.I ∧ c.I < (a.L.length : Int))) (T.ite (!within (D.I (List.getD (List.getD a.L c.I.toNat []) 0 default)) (0 : Int) (IntKind.i64.wrap (d.I - (1 : Int)))) (T.leaf (Rd.out Ex.ret [D.i 2])) (T.ite (!within (D.I (List.getD (List.getD a.L c.I.toNat []) (0 + 1) default)) (0 : Int) (IntKind.i64.wrap (d.I - (1 : Int)))) (T.leaf (Rd.out Ex.ret [D.i 2])) (T.ite (D.I (List.getD (List.getD a.L c.I.toNat []) 0 default) == D.I (List.getD (List.getD a.L c.I.toNat []) (0 + 1) default)) (T.leaf (Rd.out Ex.ret [D.i 2])) (T.ite (!within (D.I (List.getD (List.getD a.L c.I.toNat []) (0 + 1 + 1) default)) (1 : Int) (10000 : Int)) (T.leaf (Rd.out Ex.ret [D.i 2])) (T.ite (decide ((↑(List.length (D.L (List.getD (List.getD a.L c.I.toNat []) (0 + 1 + 1 + 1) default))) : Int) > (20 : Int))) (T.leaf (Rd.out Ex.ret [D.i 2])) (T.need (yes (List.length (D.L (List.getD (List.getD a.L c.I.toNat []) (0 + 1 + 1 + 1) default)) ≤ 20 ∧ (↑(List.length (D.L (List.getD (List.getD a.L c.I.toNat []) (0 + 1 + 1 + 1) default))) : Int) = (↑(List.length (D.L (List.getD (List.getD a.L c.I.toNat []) (0 + 1 + 1 + 1) default))) : Int) ∧ (0 : Int) ≤ (0 : Int) ∧ (0 : Int) ≤ (↑(List.length (D.L (List.getD (List.getD a.L c.I.toNat []) (0 + 1 + 1 + 1) default))) : Int) ∧ (-1 : Int) = if (0 : Int) = (0 : Int) then (-1 : Int) else ix (List.getD (D.L (List.getD (List.getD a.L c.I.toNat []) (0 + 1 + 1 + 1) default)) (Int.toNat (0 : Int) - 1) []) 1)) (T.ite (allFrom (clB (D.L (List.getD (List.getD a.L c.I.toNat []) (0 + 1 + 1 + 1) default))) (Int.toNat (0 : Int)) (List.length (D.L (List.getD (List.getD a.L c.I.toNat []) (0 + 1 + 1 + 1) default)) - Int.toNat (0 : Int))) (T.leaf (Rd.again [D.l a.L, D.i b.I, D.i (IntKind.i64.wrap (c.I + (1 : Int))), D.i d.I, D.l e.L])) (T.leaf (Rd.out Ex.ret [D.i 2])))))))))) (T.leaf (Rd.out (Ex.exit 0) [])) := by kernel_rfl
theorem t38_10 (a b c d e f g h i : D) : roundT C tab38 38 (loopOf C.P 38 10) l38_10 [a, b, c, d, e, f, g, h, i] =
 T.ite (decide (g.I < f.I)) (T.need (decide ((0 : Int) ≤ g.I ∧ g.I < (e.L.length : Int))) (T.ite (decide (D.I (List.getD (List.getD e.L g.I.toNat []) 0 default) ≤ a.I)) (T.leaf (Rd.out Ex.ret [D.i 2])) (T.ite (decide (D.I (List.getD (List.getD e.L g.I.toNat []) 0 default) < (0 : Int))) (T.leaf (Rd.out Ex.ret [D.i 2])) (T.ite (decide (D.I (List.getD (List.getD e.L g.I.toNat []) 0 default) ≥ D.I (List.getD (List.getD e.L g.I.toNat []) (0 + 1) default))) (T.leaf (Rd.out Ex.ret [D.i 2])) (T.ite (decide (D.I (List.getD (List.getD e.L g.I.toNat []) (0 + 1) default) > (100000 : Int))) (T.leaf (Rd.out Ex.ret [D.i 2])) (T.leaf (Rd.again [D.i (D.I (List.getD (List.getD e.L g.I.toNat []) (0 + 1) default)), D.l b.L, D.i c.I, D.i d.I, D.l e.L, D.i f.I, D.i (IntKind.i64.wrap (g.I + (1 : Int))), D.i h.I, D.l i.L]))))))) (T.leaf (Rd.out (Ex.exit 2) [D.l b.L, D.i c.I, D.i d.I, D.i h.I, D.l i.L])) := by kernel_rfl
theorem t32 (a b : D) : fnT C tab32 32 s32 [a, b] =
 T.ite (!within a.I (1 : Int) (200 : Int)) (T.leaf [D.b false]) (T.ite (decide ((b.L.length : Int) > (1000 : Int))) (T.leaf [D.b false]) (T.need (yes (((1 : Int) ≤ a.I ∧ a.I ≤ (200 : Int)) ∧ b.L.length ≤ 1000 ∧ (0 : Int) ≤ (0 : Int) ∧ (0 : Int) ≤ (b.L.length : Int))) (T.ite (allFrom (fun j => roadB a.I (List.getD b.L j [])) (Int.toNat (0 : Int)) (b.L.length - Int.toNat (0 : Int))) (T.leaf [D.b true]) (T.leaf [D.b false])))) := by kernel_rfl
theorem t32_4 (a b c : D) : roundT C tab32 32 (loopOf C.P 32 4) l32_4 [a, b, c] =
 T.ite (decide (a.I < (c.L.length : Int))) (T.need (decide ((0 : Int) ≤ a.I ∧ a.I < (c.L.length : Int))) (T.need (yes ((1 : Int) ≤ b.I ∧ b.I ≤ (200 : Int))) (T.ite (!roadB b.I (mkRd (D.i (D.I (List.getD (List.getD c.L a.I.toNat []) 0 default))) (D.i (D.I (List.getD (List.getD c.L a.I.toNat []) (0 + 1) default))) (D.i (D.I (List.getD (List.getD c.L a.I.toNat []) (0 + 1 + 1) default))) (D.l (D.L (List.getD (List.getD c.L a.I.toNat []) (0 + 1 + 1 + 1) default))))) (T.leaf (Rd.out Ex.ret [D.b false])) (T.leaf (Rd.again [D.i (IntKind.i64.wrap (a.I + (1 : Int))), D.i b.I, D.l c.L]))))) (T.leaf (Rd.out (Ex.exit 0) [])) := by kernel_rfl
set_option maxRecDepth 100000
theorem ok81 (n : Nat) : FnOK C (n + 1) 81 (mkF s81 G81) := by
 refine fn_ofS hC (sp := sp81) (lp := lp81) (sw := sw81) trivial trivial (by kernel_rfl) [] (by kernel_rfl) rfl (fun k hk => by cases hk) fun ds r h => ?_
 unfold G81 at h
 split at h
 ·rename_i a b c
  cases h
  refine (congrArg T.run (t81 a b c)).trans (go_if (fun h1 => ?_) fun h1 => ?_)
  ·rw [within_dec]
   simp only [run_leaf, show (b.I ≤ a.I ∧ a.I ≤ c.I) ↔ a.I ≤ c.I from ⟨fun h => h.2, fun h => ⟨h1, h⟩⟩]
  ·rw [within_dec, decide_eq_false (fun h => h1 h.1)]
   rfl
 ·cases h
theorem ok82_4 (n : Nat) : LoopSim C (n + 1) 82 (loopOf C.P 82 4) (mkL l82_4 G82_4) := by
 refine loop_ofK hC (sp := sp82) (lp := lp82) (sw := sw82) ⟨ok81 n, trivial⟩ trivial 0 [] (by kernel_rfl) rfl (fun k hk => by cases hk) (by kernel_rfl) (fun ds => (((ds.getD 4 default).L.length : Int) - (ds.getD 0 default).I).toNat) fun ds rr h => ?_
 unfold G82_4 at h
 split at h
 ·rename_i i a b c l
  obtain ⟨hp, h⟩ := need_some h
  rw [yes_iff] at hp
  obtain ⟨h1, hi0, hi1⟩ := hp
  refine ⟨by rw [fuelC]; simp; omega, ?_⟩
  rw [show roundTK C (mkTab sp82 lp82 sw82) 82 (loopOf C.P 82 4) 0 l82_4 [i, a, b, c, l] = _ from t82_4 i a b c l]
  obtain ⟨j, hj⟩ : ∃ j : Nat, i.I = j := ⟨i.I.toNat, by omega⟩
  simp only [hj, Int.toNat_natCast, Nat.reduceAdd, ix_def] at h hi0 hi1 ⊢
  refine rd_if (fun hlt => ?_) fun hge => rd_out (all_end h (by omega))
  obtain ⟨s1, s2⟩ := all_step h (by omega : j < l.L.length)
  unfold clB at s1 s2
  rw [wrap_succ (by omega)]
  have hmu : ((l.L.length : Int) - ((j + 1 : Nat) : Int)).toNat < ((l.L.length : Int) - i.I).toNat := by rw [hj]; omega
  have key : (0 ≤ ix (l.L.getD j []) 0 ∧ ix (l.L.getD j []) 0 < ix (l.L.getD j []) 1 ∧ ix (l.L.getD j []) 1 ≤ 100000 ∧ (0 < j → ix (l.L.getD (j - 1) []) 1 < ix (l.L.getD j []) 0)) → (G82_4 [.i ((j + 1 : Nat) : Int), .i a.I, .i b.I, .i c.I, .l l.L]).run = some rr := fun hq =>
   (need_yes ⟨h1, by simp only [I_i]; omega, by simp only [I_i, L_l]; omega⟩).trans (s2 (decide_eq_true hq))
  refine rd_dec (by omega) (rd_if (fun c1 => rd_out (s1 (decide_eq_false (by omega)))) fun c1 => rd_if (fun c2 => rd_out (s1 (decide_eq_false (by omega)))) fun c2 => rd_if (fun c3 => rd_out (s1 (decide_eq_false (by omega)))) fun c3 => rd_if (fun c4 => ?_) fun c4 => rd_again (key ⟨by omega, by omega, by omega, fun h => by omega⟩) hmu)
  rw [wrap_pred (by omega), show ((j : Int) - 1).toNat = j - 1 by omega]
  exact rd_dec (by omega) (rd_if (fun c5 => rd_out (s1 (decide_eq_false fun h => by have := h.2.2.2 (by omega); omega))) fun c5 => rd_again (key ⟨by omega, by omega, by omega, fun h => by omega⟩) hmu)
 ·cases h
theorem ok82 (n : Nat) : FnOK C (n + 2) 82 (mkF s82 G82) := by
 refine fn_ofS hC (sp := sp82) (lp := lp82) (sw := sw82) ⟨ok81 n, trivial⟩ trivial (by kernel_rfl) [4] (by kernel_rfl) (by kernel_rfl) (fun k hk L hL => by
  simp at hk; subst hk; cases hL; exact ok82_4 n) fun ds r h => ?_
 unfold G82 at h
 split at h
 ·rename_i m a b c l
  obtain ⟨hp, h⟩ := need_some h
  rw [yes_iff] at hp
  refine (congrArg T.run (t82 m a b c l)).trans ?_
  rw [← h, wrap_id (by omega) (by omega), show roadB m.I (mkRd a b c l) = (decide ((0 ≤ a.I ∧ a.I < m.I) ∧ (0 ≤ b.I ∧ b.I < m.I) ∧ a.I ≠ b.I ∧ (1 ≤ c.I ∧ c.I ≤ 10000) ∧ l.L.length ≤ 20) && allFrom (clB l.L) 0 l.L.length) from rfl]
  simp only [within_dec]
  refine go_not (fun c1 => ?_) fun c1 => go_not (fun c2 => ?_) fun c2 => go_ite (fun c3 => ?_) fun c3 => go_not (fun c4 => ?_) fun c4 => go_if (fun c5 => ?_) fun c5 => ?_
  ·have c1 := of_decide_eq_false c1; rw [decide_eq_false (by omega)]; rfl
  ·have c2 := of_decide_eq_false c2; rw [decide_eq_false (by omega)]; rfl
  ·have c3 := eq_of_beq c3; rw [decide_eq_false (by omega)]; rfl
  ·have c4 := of_decide_eq_false c4; rw [decide_eq_false (by omega)]; rfl
  ·rw [decide_eq_false (by omega)]; rfl
  ·have c1 := of_decide_eq_true c1
   have c2 := of_decide_eq_true c2
   have c3 := ne_of_beq_false c3
   have c4 := of_decide_eq_true c4
   rw [decide_eq_true (by omega), Bool.true_and]
   simp only [Int.toNat_zero, Nat.sub_zero]
   exact go_yes ⟨by omega, by omega, by omega⟩ (go_ite (fun c6 => go_leaf (by rw [c6]; rfl)) fun c6 => go_leaf (by rw [c6]; rfl))
 ·cases h
theorem ok32_4 (n : Nat) : LoopSim C (n + 2) 32 (loopOf C.P 32 4) (mkL l32_4 G32_4) := by
 refine loop_ofK hC (sp := sp32) (lp := lp32) (sw := sw32) ⟨ok81 (n + 1), ok82 n, trivial⟩ trivial 0 [] (by kernel_rfl) rfl (fun k hk => by cases hk) (by kernel_rfl) (fun ds => (((ds.getD 2 default).L.length : Int) - (ds.getD 0 default).I).toNat) fun ds rr h => ?_
 unfold G32_4 at h
 split at h
 ·rename_i i a l
  obtain ⟨hp, h⟩ := need_some h
  rw [yes_iff] at hp
  obtain ⟨h0, h1, hi0, hi1⟩ := hp
  refine ⟨by rw [fuelC]; simp; omega, ?_⟩
  rw [show roundTK C (mkTab sp32 lp32 sw32) 32 (loopOf C.P 32 4) 0 l32_4 [i, a, l] = _ from t32_4 i a l]
  obtain ⟨j, hj⟩ : ∃ j : Nat, i.I = j := ⟨i.I.toNat, by omega⟩
  simp only [hj, Int.toNat_natCast, Nat.reduceAdd, lx_def, ix_def] at h hi0 hi1 ⊢
  refine rd_if (fun hlt => ?_) fun hge => rd_out (all_end h (by omega))
  obtain ⟨s1, s2⟩ := all_step h (by omega : j < l.L.length)
  rw [wrap_succ (by omega)]
  refine rd_dec (by omega) (rd_yes h0 (rd_not (fun c1 => rd_out (s1 c1)) fun c1 => ?_))
  exact rd_again ((need_yes ⟨h0, h1, by simp only [I_i]; omega, by simp only [I_i, L_l]; omega⟩).trans (s2 c1)) (show ((l.L.length : Int) - ((j + 1 : Nat) : Int)).toNat < ((l.L.length : Int) - i.I).toNat by rw [hj]; omega)
 ·cases h
theorem ok32 (n : Nat) : FnOK C (n + 3) 32 (mkF s32 G32) := by
 refine fn_ofS hC (sp := sp32) (lp := lp32) (sw := sw32) ⟨ok81 (n + 1), ok82 n, trivial⟩ trivial (by kernel_rfl) [4] (by kernel_rfl) (by kernel_rfl) (fun k hk L hL => by
  simp at hk; subst hk; cases hL; exact ok32_4 n) fun ds r h => ?_
 unfold G32 at h
 split at h
 ·rename_i a l
  refine (congrArg T.run (t32 a l)).trans ?_
  rw [← show _ = some r from h]
  show _ = some [D.b (netB a.I l.L)]
  unfold netB
  simp only [within_dec]
  refine go_not (fun c1 => ?_) fun c1 => go_if (fun c2 => ?_) fun c2 => ?_
  ·have c1 := of_decide_eq_false c1; rw [decide_eq_false (by omega)]; rfl
  ·rw [decide_eq_false (by omega)]; rfl
  ·have c1 := of_decide_eq_true c1
   rw [decide_eq_true (by omega), Bool.true_and]
   simp only [Int.toNat_zero, Nat.sub_zero]
   exact go_yes ⟨c1, by omega, by omega, by omega⟩ (go_ite (fun c6 => go_leaf (by rw [c6])) fun c6 => go_leaf (by rw [c6]))
 ·cases h
theorem ok38_10 (n : Nat) : LoopSim C (n + 1) 38 (loopOf C.P 38 10) (mkL l38_10 G38_10) := by
 refine loop_ofK hC (sp := sp38) (lp := lp38) (sw := sw38) ⟨ok83 n, trivial⟩ trivial 0 [] (by kernel_rfl) rfl (fun k hk => by cases hk) (by kernel_rfl) (fun ds => (((ds.getD 4 default).L.length : Int) - (ds.getD 6 default).I).toNat) fun ds rr h => ?_
 unfold G38_10 at h
 split at h
 ·rename_i la r m i l m' j n' r'
  obtain ⟨hp, h⟩ := need_some h
  rw [yes_iff] at hp
  obtain ⟨h1, hm, hi0, hi1, hla⟩ := hp
  refine ⟨by rw [fuelC]; simp; omega, ?_⟩
  rw [show roundTK C (mkTab sp38 lp38 sw38) 38 (loopOf C.P 38 10) 0 l38_10 [la, r, m, i, l, m', j, n', r'] = _ from t38_10 la r m i l m' j n' r']
  obtain ⟨k, hk⟩ : ∃ k : Nat, j.I = k := ⟨j.I.toNat, by omega⟩
  simp only [hk, hm, Int.toNat_natCast, Nat.reduceAdd, ix_def] at h hi0 hi1 hla ⊢
  refine rd_if (fun hlt => ?_) fun hge => rd_out (all_end h (by omega))
  obtain ⟨s1, s2⟩ := all_step h (by omega : k < l.L.length)
  unfold clB at s1 s2
  rw [wrap_succ (by omega)]
  have hla2 : (k = 0 ∧ la.I = -1) ∨ (0 < k ∧ la.I = ix (l.L.getD (k - 1) []) 1) := by
   by_cases h0 : (k : Int) = 0
   ·rw [if_pos h0] at hla; exact .inl ⟨by omega, hla⟩
   ·rw [if_neg h0] at hla; exact .inr ⟨by omega, hla⟩
  refine rd_dec (by omega) (rd_if (fun c1 => ?_) fun c1 => rd_if (fun c2 => rd_out (s1 (decide_eq_false (by omega)))) fun c2 => rd_if (fun c3 => rd_out (s1 (decide_eq_false (by omega)))) fun c3 => rd_if (fun c4 => rd_out (s1 (decide_eq_false (by omega)))) fun c4 => ?_)
  ·refine rd_out (s1 (decide_eq_false fun hn => ?_))
   rcases hla2 with ⟨e1, e2⟩ | ⟨e1, e2⟩
   ·omega
   ·have := hn.2.2.2 e1; omega
  ·refine rd_again ((need_yes ⟨h1, by simp only [I_i, L_l], by simp only [I_i]; omega, by simp only [I_i, L_l]; omega, ?_⟩).trans (s2 (decide_eq_true ⟨by omega, by omega, by omega, fun h => by rcases hla2 with ⟨e1, e2⟩ | ⟨e1, e2⟩ <;> omega⟩))) (show ((l.L.length : Int) - ((k + 1 : Nat) : Int)).toNat < ((l.L.length : Int) - j.I).toNat by rw [hk]; omega)
   simp only [I_i, L_l, Int.toNat_natCast, Nat.add_sub_cancel]
   rw [if_neg (by omega)]
 ·cases h
theorem ok38_4 (n : Nat) : LoopSim C (n + 1) 38 (loopOf C.P 38 4) (mkL l38_4 G38_4) := by
 refine loop_ofK hC (sp := sp38) (lp := lp38) (sw := sw38) ⟨ok83 n, trivial⟩ trivial 0 [10] (by kernel_rfl) (by kernel_rfl) (fun k hk L hL => by simp at hk; subst hk; cases hL; exact ok38_10 n) (by kernel_rfl) (fun ds => (((ds.getD 0 default).L.length : Int) - (ds.getD 2 default).I).toNat) fun ds rr h => ?_
 unfold G38_4 at h
 split at h
 ·rename_i l m i a r'
  obtain ⟨hp, h⟩ := need_some h
  rw [yes_iff] at hp
  obtain ⟨h0, h1, hm, hi0, hi1⟩ := hp
  refine ⟨by rw [fuelC]; simp; omega, ?_⟩
  rw [show roundTK C (mkTab sp38 lp38 sw38) 38 (loopOf C.P 38 4) 0 l38_4 [l, m, i, a, r'] = _ from t38_4 l m i a r']
  obtain ⟨j, hj⟩ : ∃ j : Nat, i.I = j := ⟨i.I.toNat, by omega⟩
  simp only [hj, hm, Int.toNat_natCast, Nat.reduceAdd, lx_def, ix_def, within_dec] at h hi0 hi1 ⊢
  refine rd_if (fun hlt => ?_) fun hge => rd_out (all_end h (by omega))
  obtain ⟨s1, s2⟩ := all_step h (by omega : j < l.L.length)
  rw [wrap_succ (by omega), wrap_id (by omega) (by omega)]
  unfold roadB roadH at s1 s2
  generalize l.L.getD j [] = c at *
  have no : ¬ ((0 ≤ ix c 0 ∧ ix c 0 < a.I) ∧ (0 ≤ ix c 1 ∧ ix c 1 < a.I) ∧ ix c 0 ≠ ix c 1 ∧ (1 ≤ ix c 2 ∧ ix c 2 ≤ 10000) ∧ (lx c 3).length ≤ 20) → some (Ex.ret, [D.i 2]) = some rr := fun hn => s1 (by rw [decide_eq_false hn]; rfl)
  refine rd_dec (by omega) (rd_not (fun c1 => ?_) fun c1 => rd_not (fun c2 => ?_) fun c2 => rd_ite (fun c3 => ?_) fun c3 => rd_not (fun c4 => ?_) fun c4 => rd_if (fun c5 => rd_out (no (by omega))) fun c5 => ?_)
  ·have c1 := of_decide_eq_false c1; exact rd_out (no (by omega))
  ·have c2 := of_decide_eq_false c2; exact rd_out (no (by omega))
  ·have c3 := eq_of_beq c3; exact rd_out (no (by omega))
  ·have c4 := of_decide_eq_false c4; exact rd_out (no (by omega))
  ·have c1 := of_decide_eq_true c1
   have c2 := of_decide_eq_true c2
   have c3 := ne_of_beq_false c3
   have c4 := of_decide_eq_true c4
   rw [decide_eq_true (by omega), Bool.true_and] at s1 s2
   refine rd_yes ⟨by omega, trivial, by omega, by omega, by simp⟩ ?_
   simp only [Int.toNat_zero, Nat.sub_zero]
   refine rd_ite (fun c6 => ?_) fun c6 => rd_out (s1 c6)
   exact rd_again ((need_yes ⟨h0, h1, by simp only [I_i, L_l], by simp only [I_i]; omega, by simp only [I_i, L_l]; omega⟩).trans (s2 c6)) (show ((l.L.length : Int) - ((j + 1 : Nat) : Int)).toNat < ((l.L.length : Int) - i.I).toNat by rw [hj]; omega)
 ·cases h
theorem ok38 (n : Nat) : FnOK C (n + 2) 38 (mkF s38 G38) := by
 refine fn_ofS hC (sp := sp38) (lp := lp38) (sw := sw38) ⟨ok83 n, trivial⟩ trivial (by kernel_rfl) [4] (by kernel_rfl) (by kernel_rfl) (fun k hk L hL => by
  simp at hk; subst hk; cases hL; exact ok38_4 n) fun ds r h => ?_
 unfold G38 at h
 split at h
 ·rename_i a l
  refine (congrArg T.run (t38 a l)).trans ?_
  rw [← show _ = some r from h]
  show _ = some [D.i (if netB a.I l.L = true then 0 else 2)]
  unfold netB
  simp only [within_dec]
  refine go_not (fun c1 => ?_) fun c1 => go_if (fun c2 => ?_) fun c2 => ?_
  ·have c1 := of_decide_eq_false c1; rw [decide_eq_false (by omega)]; rfl
  ·rw [decide_eq_false (by omega)]; rfl
  ·have c1 := of_decide_eq_true c1
   rw [decide_eq_true (by omega), Bool.true_and]
   simp only [Int.toNat_zero, Nat.sub_zero]
   exact go_yes ⟨c1, by omega, trivial, by omega, by omega⟩ (go_ite (fun c6 => go_leaf (by rw [c6]; rfl)) fun c6 => go_leaf (by rw [c6]; rfl))
 ·cases h
end Go.Proofs.Ytgoedfonmocafaa.Rs
