/-
  What the claim rescue_guards rests on, part 8.
-/
import Derived.Test.YtgmefblkmidglaaZ7
namespace Go.Proofs.Ytgmefblkmidglaa
open Go.Lite
set_option linter.unusedVariables false
set_option maxRecDepth 100000
theorem t40 (a b c d e f g h i j k l m n o p q r s t : D) : (fnTW C tab40 40 s40 [a, b, c, d, e, f, g, h, i, j, k, l, m, n, o, p, q, r, s, t]).run =
  T.run (T.need (decide (o.I.toNat ≤ r.L.length)) (T.need (decide (p.I.toNat ≤ s.L.length)) (T.need (decide (q.I.toNat ≤ t.L.length)) (T.ite (!decide (0 < List.length (List.take q.I.toNat t.L))) (T.leaf [D.i 0, D.i 1, D.i c.I, D.i d.I, D.i e.I, D.i f.I, D.i g.I, D.i h.I, D.b i.B, D.i j.I, D.b k.B, D.b l.B, D.i m.I, D.b n.B, D.i (o.I.toNat : Int), D.i (p.I.toNat : Int), D.i (q.I.toNat : Int), D.l r.L, D.l s.L, D.l t.L]) (T.ite (!within a.I (0 : Int) (IntKind.wrap IntKind.i64 (h.I - (1 : Int)))) (T.leaf [D.i 0, D.i 2, D.i c.I, D.i d.I, D.i e.I, D.i f.I, D.i g.I, D.i h.I, D.b i.B, D.i j.I, D.b k.B, D.b l.B, D.i m.I, D.b n.B, D.i (o.I.toNat : Int), D.i (p.I.toNat : Int), D.i (q.I.toNat : Int), D.l r.L, D.l s.L, D.l t.L]) (T.ite (!within b.I (0 : Int) (100000 : Int)) (T.leaf [D.i 0, D.i 2, D.i c.I, D.i d.I, D.i e.I, D.i f.I, D.i g.I, D.i h.I, D.b i.B, D.i j.I, D.b k.B, D.b l.B, D.i m.I, D.b n.B, D.i (o.I.toNat : Int), D.i (p.I.toNat : Int), D.i (q.I.toNat : Int), D.l r.L, D.l s.L, D.l t.L]) (T.need (yes ((↑0 : Int) = (0 : Int) ∧ (okG c.I d.I e.I f.I g.I h.I (o.I.toNat : Int) (p.I.toNat : Int) (q.I.toNat : Int) r.L s.L t.L ∧ tOK j.I ∧ tOK m.I) ∧ tOK b.I ∧ ((0 : Int) ≤ a.I ∧ a.I ≤ (t.L.length : Int)) ∧ (↑8 : Int) = (8 : Int) ∧ (↑8 : Int) = (8 : Int) ∧ (0 : Int) ≤ (0 : Int) ∧ (0 : Int) ≤ (8 : Int))) (T.ite (List.isEmpty (rulesF (ruleB c.I d.I e.I f.I g.I i.B l.B r.L s.L t.L a.I b.I) (Int.toNat (0 : Int)) (8 - Int.toNat (0 : Int)) [])) (T.leaf [D.i 0, D.i 0, D.i c.I, D.i d.I, D.i e.I, D.i f.I, D.i g.I, D.i h.I, D.b i.B, D.i j.I, D.b k.B, D.b l.B, D.i m.I, D.b n.B, D.i (↑(Int.toNat (o.I.toNat : Int)) : Int), D.i (↑(Int.toNat (p.I.toNat : Int)) : Int), D.i (↑(Int.toNat (q.I.toNat : Int)) : Int), D.l r.L, D.l s.L, D.l t.L]) (T.leaf [D.i 1, D.i (↑(Int.toNat (↑(List.length (rulesF (ruleB c.I d.I e.I f.I g.I i.B l.B r.L s.L t.L a.I b.I) (Int.toNat (0 : Int)) (8 - Int.toNat (0 : Int)) [])) : Int)) : Int), D.i 0, D.i c.I, D.i d.I, D.i e.I, D.i f.I, D.i g.I, D.i h.I, D.b i.B, D.i j.I, D.b k.B, D.b l.B, D.i m.I, D.b n.B, D.i (↑(Int.toNat (o.I.toNat : Int)) : Int), D.i (↑(Int.toNat (p.I.toNat : Int)) : Int), D.i (↑(Int.toNat (q.I.toNat : Int)) : Int), D.l r.L, D.l s.L, D.l t.L, D.l (rulesF (ruleB c.I d.I e.I f.I g.I i.B l.B r.L s.L t.L a.I b.I) (Int.toNat (0 : Int)) (8 - Int.toNat (0 : Int)) [])]))))))))) := by kernel_rfl
end Go.Proofs.Ytgmefblkmidglaa
namespace Go.Proofs.Ytgmefblkmidglaa
open Go.Lite
set_option linter.unusedVariables false
set_option maxRecDepth 100000
theorem t40_8_0 (a b c d e f g h i j k l m n o p q r s t u v w : D) : (roundTK C tab40 40 (loopOf C.P 40 8) 4 l40_8 [.i 0, a, b, c, d, e, f, g, h, i, j, k, l, m, n, o, p, q, r, s, t, u, v, w]).run =
  T.run (T.ite (decide (e.I < d.I)) (T.need (decide ((0 : Int) ≤ e.I ∧ e.I < (c.I.toNat : Int))) (T.ite (decide ((e.I.toNat : Int) = (↑0 : Int))) (T.need (decide (r.I.toNat ≤ u.L.length)) (T.need (decide (s.I.toNat ≤ v.L.length)) (T.need (decide (t.I.toNat ≤ w.L.length)) (T.ite (!l.B) (T.leaf (Rd.again [D.i 1, D.i a.I, D.i b.I, D.i 1, D.i (c.I.toNat : Int), D.i d.I, D.i (IntKind.wrap IntKind.i64 (e.I + (1 : Int))), D.i f.I, D.i g.I, D.i h.I, D.i i.I, D.i j.I, D.i k.I, D.b l.B, D.i m.I, D.b n.B, D.b o.B, D.i p.I, D.b q.B, D.i (r.I.toNat : Int), D.i (s.I.toNat : Int), D.i (t.I.toNat : Int), D.l u.L, D.l v.L, D.l w.L, D.l [[D.i (IntKind.wrap IntKind.i64 ((1 : Int) + e.I))]]])) (T.leaf (Rd.again [D.i 0, D.i a.I, D.i b.I, D.i (c.I.toNat : Int), D.i d.I, D.i (IntKind.wrap IntKind.i64 (e.I + (1 : Int))), D.i f.I, D.i g.I, D.i h.I, D.i i.I, D.i j.I, D.i k.I, D.b l.B, D.i m.I, D.b n.B, D.b o.B, D.i p.I, D.b q.B, D.i (r.I.toNat : Int), D.i (s.I.toNat : Int), D.i (t.I.toNat : Int), D.l u.L, D.l v.L, D.l w.L])))))) (T.ite (decide ((e.I.toNat : Int) = (↑(0 + 1) : Int))) (T.need (decide (r.I.toNat ≤ u.L.length)) (T.need (decide (s.I.toNat ≤ v.L.length)) (T.need (decide (t.I.toNat ≤ w.L.length)) (T.need (yes (List.length (List.take r.I.toNat u.L) < big)) (T.ite (anyL redR (List.take r.I.toNat u.L)) (T.leaf (Rd.again [D.i 1, D.i a.I, D.i b.I, D.i 1, D.i (c.I.toNat : Int), D.i d.I, D.i (IntKind.wrap IntKind.i64 (e.I + (1 : Int))), D.i f.I, D.i g.I, D.i h.I, D.i i.I, D.i j.I, D.i k.I, D.b l.B, D.i m.I, D.b n.B, D.b o.B, D.i p.I, D.b q.B, D.i (r.I.toNat : Int), D.i (s.I.toNat : Int), D.i (t.I.toNat : Int), D.l u.L, D.l v.L, D.l w.L, D.l [[D.i (IntKind.wrap IntKind.i64 ((1 : Int) + e.I))]]])) (T.leaf (Rd.again [D.i 0, D.i a.I, D.i b.I, D.i (c.I.toNat : Int), D.i d.I, D.i (IntKind.wrap IntKind.i64 (e.I + (1 : Int))), D.i f.I, D.i g.I, D.i h.I, D.i i.I, D.i j.I, D.i k.I, D.b l.B, D.i m.I, D.b n.B, D.b o.B, D.i p.I, D.b q.B, D.i (r.I.toNat : Int), D.i (s.I.toNat : Int), D.i (t.I.toNat : Int), D.l u.L, D.l v.L, D.l w.L]))))))) (T.ite (decide ((e.I.toNat : Int) = (↑(0 + 1 + 1) : Int))) (T.need (decide (r.I.toNat ≤ u.L.length)) (T.need (decide (s.I.toNat ≤ v.L.length)) (T.need (decide (t.I.toNat ≤ w.L.length)) (T.need (yes (List.length (List.take s.I.toNat v.L) < big ∧ okLo (List.take s.I.toNat v.L) ∧ tOK b.I)) (T.ite (anyL (silR b.I g.I) (List.take s.I.toNat v.L)) (T.leaf (Rd.again [D.i 1, D.i a.I, D.i b.I, D.i 1, D.i (c.I.toNat : Int), D.i d.I, D.i (IntKind.wrap IntKind.i64 (e.I + (1 : Int))), D.i f.I, D.i g.I, D.i h.I, D.i i.I, D.i j.I, D.i k.I, D.b l.B, D.i m.I, D.b n.B, D.b o.B, D.i p.I, D.b q.B, D.i (r.I.toNat : Int), D.i (s.I.toNat : Int), D.i (t.I.toNat : Int), D.l u.L, D.l v.L, D.l w.L, D.l [[D.i (IntKind.wrap IntKind.i64 ((1 : Int) + e.I))]]])) (T.leaf (Rd.again [D.i 0, D.i a.I, D.i b.I, D.i (c.I.toNat : Int), D.i d.I, D.i (IntKind.wrap IntKind.i64 (e.I + (1 : Int))), D.i f.I, D.i g.I, D.i h.I, D.i i.I, D.i j.I, D.i k.I, D.b l.B, D.i m.I, D.b n.B, D.b o.B, D.i p.I, D.b q.B, D.i (r.I.toNat : Int), D.i (s.I.toNat : Int), D.i (t.I.toNat : Int), D.l u.L, D.l v.L, D.l w.L]))))))) (T.ite (decide ((e.I.toNat : Int) = (↑(0 + 1 + 1 + 1) : Int))) (T.need (decide (r.I.toNat ≤ u.L.length)) (T.need (decide (s.I.toNat ≤ v.L.length)) (T.need (decide (t.I.toNat ≤ w.L.length)) (T.ite (!o.B) (T.leaf (Rd.again [D.i 1, D.i a.I, D.i b.I, D.i 1, D.i (c.I.toNat : Int), D.i d.I, D.i (IntKind.wrap IntKind.i64 (e.I + (1 : Int))), D.i f.I, D.i g.I, D.i h.I, D.i i.I, D.i j.I, D.i k.I, D.b l.B, D.i m.I, D.b n.B, D.b o.B, D.i p.I, D.b q.B, D.i (r.I.toNat : Int), D.i (s.I.toNat : Int), D.i (t.I.toNat : Int), D.l u.L, D.l v.L, D.l w.L, D.l [[D.i (IntKind.wrap IntKind.i64 ((1 : Int) + e.I))]]])) (T.leaf (Rd.again [D.i 0, D.i a.I, D.i b.I, D.i (c.I.toNat : Int), D.i d.I, D.i (IntKind.wrap IntKind.i64 (e.I + (1 : Int))), D.i f.I, D.i g.I, D.i h.I, D.i i.I, D.i j.I, D.i k.I, D.b l.B, D.i m.I, D.b n.B, D.b o.B, D.i p.I, D.b q.B, D.i (r.I.toNat : Int), D.i (s.I.toNat : Int), D.i (t.I.toNat : Int), D.l u.L, D.l v.L, D.l w.L])))))) (T.ite (decide ((e.I.toNat : Int) = (↑(0 + 1 + 1 + 1 + 1) : Int))) (T.need (decide (r.I.toNat ≤ u.L.length)) (T.need (decide (s.I.toNat ≤ v.L.length)) (T.need (decide (t.I.toNat ≤ w.L.length)) (T.need (yes (okPl f.I g.I h.I i.I j.I k.I ∧ List.length (List.take t.I.toNat w.L) < big)) (T.ite (anyL (both (befR h.I)) (List.take t.I.toNat w.L)) (T.leaf (Rd.again [D.i 1, D.i a.I, D.i b.I, D.i 1, D.i (c.I.toNat : Int), D.i d.I, D.i (IntKind.wrap IntKind.i64 (e.I + (1 : Int))), D.i f.I, D.i g.I, D.i h.I, D.i i.I, D.i j.I, D.i k.I, D.b l.B, D.i m.I, D.b n.B, D.b o.B, D.i p.I, D.b q.B, D.i (r.I.toNat : Int), D.i (s.I.toNat : Int), D.i (t.I.toNat : Int), D.l u.L, D.l v.L, D.l w.L, D.l [[D.i (IntKind.wrap IntKind.i64 ((1 : Int) + e.I))]]])) (T.leaf (Rd.again [D.i 0, D.i a.I, D.i b.I, D.i (c.I.toNat : Int), D.i d.I, D.i (IntKind.wrap IntKind.i64 (e.I + (1 : Int))), D.i f.I, D.i g.I, D.i h.I, D.i i.I, D.i j.I, D.i k.I, D.b l.B, D.i m.I, D.b n.B, D.b o.B, D.i p.I, D.b q.B, D.i (r.I.toNat : Int), D.i (s.I.toNat : Int), D.i (t.I.toNat : Int), D.l u.L, D.l v.L, D.l w.L]))))))) (T.ite (decide ((e.I.toNat : Int) = (↑(0 + 1 + 1 + 1 + 1 + 1) : Int))) (T.need (decide (r.I.toNat ≤ u.L.length)) (T.need (decide (s.I.toNat ≤ v.L.length)) (T.need (decide (t.I.toNat ≤ w.L.length)) (T.need (yes (okPl f.I g.I h.I i.I j.I k.I ∧ List.length (List.take t.I.toNat w.L) < big ∧ okCa (List.take t.I.toNat w.L) ∧ tOK b.I)) (T.ite (anyL (both (misR f.I j.I b.I)) (List.take t.I.toNat w.L)) (T.leaf (Rd.again [D.i 1, D.i a.I, D.i b.I, D.i 1, D.i (c.I.toNat : Int), D.i d.I, D.i (IntKind.wrap IntKind.i64 (e.I + (1 : Int))), D.i f.I, D.i g.I, D.i h.I, D.i i.I, D.i j.I, D.i k.I, D.b l.B, D.i m.I, D.b n.B, D.b o.B, D.i p.I, D.b q.B, D.i (r.I.toNat : Int), D.i (s.I.toNat : Int), D.i (t.I.toNat : Int), D.l u.L, D.l v.L, D.l w.L, D.l [[D.i (IntKind.wrap IntKind.i64 ((1 : Int) + e.I))]]])) (T.leaf (Rd.again [D.i 0, D.i a.I, D.i b.I, D.i (c.I.toNat : Int), D.i d.I, D.i (IntKind.wrap IntKind.i64 (e.I + (1 : Int))), D.i f.I, D.i g.I, D.i h.I, D.i i.I, D.i j.I, D.i k.I, D.b l.B, D.i m.I, D.b n.B, D.b o.B, D.i p.I, D.b q.B, D.i (r.I.toNat : Int), D.i (s.I.toNat : Int), D.i (t.I.toNat : Int), D.l u.L, D.l v.L, D.l w.L]))))))) (T.ite (decide ((e.I.toNat : Int) = (↑(0 + 1 + 1 + 1 + 1 + 1 + 1) : Int))) (T.need (decide (r.I.toNat ≤ u.L.length)) (T.need (decide (s.I.toNat ≤ v.L.length)) (T.need (decide (t.I.toNat ≤ w.L.length)) (T.need (yes (okPl f.I g.I h.I i.I j.I k.I ∧ List.length (List.take t.I.toNat w.L) < big ∧ okCa (List.take t.I.toNat w.L) ∧ tOK b.I)) (T.ite (anyL (both (intR i.I b.I)) (List.take t.I.toNat w.L)) (T.leaf (Rd.again [D.i 1, D.i a.I, D.i b.I, D.i 1, D.i (c.I.toNat : Int), D.i d.I, D.i (IntKind.wrap IntKind.i64 (e.I + (1 : Int))), D.i f.I, D.i g.I, D.i h.I, D.i i.I, D.i j.I, D.i k.I, D.b l.B, D.i m.I, D.b n.B, D.b o.B, D.i p.I, D.b q.B, D.i (r.I.toNat : Int), D.i (s.I.toNat : Int), D.i (t.I.toNat : Int), D.l u.L, D.l v.L, D.l w.L, D.l [[D.i (IntKind.wrap IntKind.i64 ((1 : Int) + e.I))]]])) (T.leaf (Rd.again [D.i 0, D.i a.I, D.i b.I, D.i (c.I.toNat : Int), D.i d.I, D.i (IntKind.wrap IntKind.i64 (e.I + (1 : Int))), D.i f.I, D.i g.I, D.i h.I, D.i i.I, D.i j.I, D.i k.I, D.b l.B, D.i m.I, D.b n.B, D.b o.B, D.i p.I, D.b q.B, D.i (r.I.toNat : Int), D.i (s.I.toNat : Int), D.i (t.I.toNat : Int), D.l u.L, D.l v.L, D.l w.L]))))))) (T.need (decide ((e.I.toNat : Int) = (↑(0 + 1 + 1 + 1 + 1 + 1 + 1 + 1) : Int))) (T.need (decide (r.I.toNat ≤ u.L.length)) (T.need (decide (s.I.toNat ≤ v.L.length)) (T.need (decide (t.I.toNat ≤ w.L.length)) (T.need (yes (List.length (List.take t.I.toNat w.L) < big ∧ (0 : Int) ≤ a.I ∧ a.I ≤ (↑(List.length (List.take t.I.toNat w.L)) : Int))) (T.ite (anyL stR (List.drop a.I.toNat (List.take t.I.toNat w.L))) (T.leaf (Rd.again [D.i 1, D.i a.I, D.i b.I, D.i 1, D.i (c.I.toNat : Int), D.i d.I, D.i (IntKind.wrap IntKind.i64 (e.I + (1 : Int))), D.i f.I, D.i g.I, D.i h.I, D.i i.I, D.i j.I, D.i k.I, D.b l.B, D.i m.I, D.b n.B, D.b o.B, D.i p.I, D.b q.B, D.i (r.I.toNat : Int), D.i (s.I.toNat : Int), D.i (t.I.toNat : Int), D.l u.L, D.l v.L, D.l w.L, D.l [[D.i (IntKind.wrap IntKind.i64 ((1 : Int) + e.I))]]])) (T.leaf (Rd.again [D.i 0, D.i a.I, D.i b.I, D.i (c.I.toNat : Int), D.i d.I, D.i (IntKind.wrap IntKind.i64 (e.I + (1 : Int))), D.i f.I, D.i g.I, D.i h.I, D.i i.I, D.i j.I, D.i k.I, D.b l.B, D.i m.I, D.b n.B, D.b o.B, D.i p.I, D.b q.B, D.i (r.I.toNat : Int), D.i (s.I.toNat : Int), D.i (t.I.toNat : Int), D.l u.L, D.l v.L, D.l w.L])))))))))))))))) (T.leaf (Rd.out (Ex.exit 0) [D.i 0, D.i f.I, D.i g.I, D.i h.I, D.i i.I, D.i j.I, D.i k.I, D.b l.B, D.i m.I, D.b n.B, D.b o.B, D.i p.I, D.b q.B, D.i (r.I.toNat : Int), D.i (s.I.toNat : Int), D.i (t.I.toNat : Int), D.l u.L, D.l v.L, D.l w.L]))) := by kernel_rfl
end Go.Proofs.Ytgmefblkmidglaa
namespace Go.Proofs.Ytgmefblkmidglaa
open Go.Lite
set_option linter.unusedVariables false
set_option maxRecDepth 100000
theorem t40_8_1 (a b c d e f g h i j k l m n o p q r s t u v w x y : D) : (roundTK C tab40 40 (loopOf C.P 40 8) 4 l40_8 [.i 1, a, b, c, d, e, f, g, h, i, j, k, l, m, n, o, p, q, r, s, t, u, v, w, x, y]).run =
  T.run (T.ite (decide (f.I < e.I)) (T.need (decide ((0 : Int) ≤ f.I ∧ f.I < (d.I.toNat : Int))) (T.ite (decide ((f.I.toNat : Int) = (↑0 : Int))) (T.need (decide (s.I.toNat ≤ v.L.length)) (T.need (decide (t.I.toNat ≤ w.L.length)) (T.need (decide (u.I.toNat ≤ x.L.length)) (T.ite (!m.B) (T.need (decide (c.I.toNat ≤ y.L.length ∧ c.I.toNat + List.length (List.take (List.length [[D.i (IntKind.wrap IntKind.i64 ((1 : Int) + f.I))]]) [[D.i (IntKind.wrap IntKind.i64 ((1 : Int) + f.I))]]) ≤ 2 ^ 62 ∧ (c.I.toNat + List.length (List.take (List.length [[D.i (IntKind.wrap IntKind.i64 ((1 : Int) + f.I))]]) [[D.i (IntKind.wrap IntKind.i64 ((1 : Int) + f.I))]])) * Try.prog.types[109].bytes ≤ 2 ^ 47)) (T.leaf (Rd.again [D.i 1, D.i a.I, D.i b.I, D.i (↑(c.I.toNat + List.length (List.take (List.length [[D.i (IntKind.wrap IntKind.i64 ((1 : Int) + f.I))]]) [[D.i (IntKind.wrap IntKind.i64 ((1 : Int) + f.I))]])) : Int), D.i (d.I.toNat : Int), D.i e.I, D.i (IntKind.wrap IntKind.i64 (f.I + (1 : Int))), D.i g.I, D.i h.I, D.i i.I, D.i j.I, D.i k.I, D.i l.I, D.b m.B, D.i n.I, D.b o.B, D.b p.B, D.i q.I, D.b r.B, D.i (s.I.toNat : Int), D.i (t.I.toNat : Int), D.i (u.I.toNat : Int), D.l v.L, D.l w.L, D.l x.L, D.l (List.take c.I.toNat y.L ++ List.take (List.length [[D.i (IntKind.wrap IntKind.i64 ((1 : Int) + f.I))]]) [[D.i (IntKind.wrap IntKind.i64 ((1 : Int) + f.I))]])]))) (T.leaf (Rd.again [D.i 1, D.i a.I, D.i b.I, D.i (c.I.toNat : Int), D.i (d.I.toNat : Int), D.i e.I, D.i (IntKind.wrap IntKind.i64 (f.I + (1 : Int))), D.i g.I, D.i h.I, D.i i.I, D.i j.I, D.i k.I, D.i l.I, D.b m.B, D.i n.I, D.b o.B, D.b p.B, D.i q.I, D.b r.B, D.i (s.I.toNat : Int), D.i (t.I.toNat : Int), D.i (u.I.toNat : Int), D.l v.L, D.l w.L, D.l x.L, D.l y.L])))))) (T.ite (decide ((f.I.toNat : Int) = (↑(0 + 1) : Int))) (T.need (decide (s.I.toNat ≤ v.L.length)) (T.need (decide (t.I.toNat ≤ w.L.length)) (T.need (decide (u.I.toNat ≤ x.L.length)) (T.need (yes (List.length (List.take s.I.toNat v.L) < big)) (T.ite (anyL redR (List.take s.I.toNat v.L)) (T.need (decide (c.I.toNat ≤ y.L.length ∧ c.I.toNat + List.length (List.take (List.length [[D.i (IntKind.wrap IntKind.i64 ((1 : Int) + f.I))]]) [[D.i (IntKind.wrap IntKind.i64 ((1 : Int) + f.I))]]) ≤ 2 ^ 62 ∧ (c.I.toNat + List.length (List.take (List.length [[D.i (IntKind.wrap IntKind.i64 ((1 : Int) + f.I))]]) [[D.i (IntKind.wrap IntKind.i64 ((1 : Int) + f.I))]])) * Try.prog.types[109].bytes ≤ 2 ^ 47)) (T.leaf (Rd.again [D.i 1, D.i a.I, D.i b.I, D.i (↑(c.I.toNat + List.length (List.take (List.length [[D.i (IntKind.wrap IntKind.i64 ((1 : Int) + f.I))]]) [[D.i (IntKind.wrap IntKind.i64 ((1 : Int) + f.I))]])) : Int), D.i (d.I.toNat : Int), D.i e.I, D.i (IntKind.wrap IntKind.i64 (f.I + (1 : Int))), D.i g.I, D.i h.I, D.i i.I, D.i j.I, D.i k.I, D.i l.I, D.b m.B, D.i n.I, D.b o.B, D.b p.B, D.i q.I, D.b r.B, D.i (s.I.toNat : Int), D.i (t.I.toNat : Int), D.i (u.I.toNat : Int), D.l v.L, D.l w.L, D.l x.L, D.l (List.take c.I.toNat y.L ++ List.take (List.length [[D.i (IntKind.wrap IntKind.i64 ((1 : Int) + f.I))]]) [[D.i (IntKind.wrap IntKind.i64 ((1 : Int) + f.I))]])]))) (T.leaf (Rd.again [D.i 1, D.i a.I, D.i b.I, D.i (c.I.toNat : Int), D.i (d.I.toNat : Int), D.i e.I, D.i (IntKind.wrap IntKind.i64 (f.I + (1 : Int))), D.i g.I, D.i h.I, D.i i.I, D.i j.I, D.i k.I, D.i l.I, D.b m.B, D.i n.I, D.b o.B, D.b p.B, D.i q.I, D.b r.B, D.i (s.I.toNat : Int), D.i (t.I.toNat : Int), D.i (u.I.toNat : Int), D.l v.L, D.l w.L, D.l x.L, D.l y.L]))))))) (T.ite (decide ((f.I.toNat : Int) = (↑(0 + 1 + 1) : Int))) (T.need (decide (s.I.toNat ≤ v.L.length)) (T.need (decide (t.I.toNat ≤ w.L.length)) (T.need (decide (u.I.toNat ≤ x.L.length)) (T.need (yes (List.length (List.take t.I.toNat w.L) < big ∧ okLo (List.take t.I.toNat w.L) ∧ tOK b.I)) (T.ite (anyL (silR b.I h.I) (List.take t.I.toNat w.L)) (T.need (decide (c.I.toNat ≤ y.L.length ∧ c.I.toNat + List.length (List.take (List.length [[D.i (IntKind.wrap IntKind.i64 ((1 : Int) + f.I))]]) [[D.i (IntKind.wrap IntKind.i64 ((1 : Int) + f.I))]]) ≤ 2 ^ 62 ∧ (c.I.toNat + List.length (List.take (List.length [[D.i (IntKind.wrap IntKind.i64 ((1 : Int) + f.I))]]) [[D.i (IntKind.wrap IntKind.i64 ((1 : Int) + f.I))]])) * Try.prog.types[109].bytes ≤ 2 ^ 47)) (T.leaf (Rd.again [D.i 1, D.i a.I, D.i b.I, D.i (↑(c.I.toNat + List.length (List.take (List.length [[D.i (IntKind.wrap IntKind.i64 ((1 : Int) + f.I))]]) [[D.i (IntKind.wrap IntKind.i64 ((1 : Int) + f.I))]])) : Int), D.i (d.I.toNat : Int), D.i e.I, D.i (IntKind.wrap IntKind.i64 (f.I + (1 : Int))), D.i g.I, D.i h.I, D.i i.I, D.i j.I, D.i k.I, D.i l.I, D.b m.B, D.i n.I, D.b o.B, D.b p.B, D.i q.I, D.b r.B, D.i (s.I.toNat : Int), D.i (t.I.toNat : Int), D.i (u.I.toNat : Int), D.l v.L, D.l w.L, D.l x.L, D.l (List.take c.I.toNat y.L ++ List.take (List.length [[D.i (IntKind.wrap IntKind.i64 ((1 : Int) + f.I))]]) [[D.i (IntKind.wrap IntKind.i64 ((1 : Int) + f.I))]])]))) (T.leaf (Rd.again [D.i 1, D.i a.I, D.i b.I, D.i (c.I.toNat : Int), D.i (d.I.toNat : Int), D.i e.I, D.i (IntKind.wrap IntKind.i64 (f.I + (1 : Int))), D.i g.I, D.i h.I, D.i i.I, D.i j.I, D.i k.I, D.i l.I, D.b m.B, D.i n.I, D.b o.B, D.b p.B, D.i q.I, D.b r.B, D.i (s.I.toNat : Int), D.i (t.I.toNat : Int), D.i (u.I.toNat : Int), D.l v.L, D.l w.L, D.l x.L, D.l y.L]))))))) (T.ite (decide ((f.I.toNat : Int) = (↑(0 + 1 + 1 + 1) : Int))) (T.need (decide (s.I.toNat ≤ v.L.length)) (T.need (decide (t.I.toNat ≤ w.L.length)) (T.need (decide (u.I.toNat ≤ x.L.length)) (T.ite (!p.B) (T.need (decide (c.I.toNat ≤ y.L.length ∧ c.I.toNat + List.length (List.take (List.length [[D.i (IntKind.wrap IntKind.i64 ((1 : Int) + f.I))]]) [[D.i (IntKind.wrap IntKind.i64 ((1 : Int) + f.I))]]) ≤ 2 ^ 62 ∧ (c.I.toNat + List.length (List.take (List.length [[D.i (IntKind.wrap IntKind.i64 ((1 : Int) + f.I))]]) [[D.i (IntKind.wrap IntKind.i64 ((1 : Int) + f.I))]])) * Try.prog.types[109].bytes ≤ 2 ^ 47)) (T.leaf (Rd.again [D.i 1, D.i a.I, D.i b.I, D.i (↑(c.I.toNat + List.length (List.take (List.length [[D.i (IntKind.wrap IntKind.i64 ((1 : Int) + f.I))]]) [[D.i (IntKind.wrap IntKind.i64 ((1 : Int) + f.I))]])) : Int), D.i (d.I.toNat : Int), D.i e.I, D.i (IntKind.wrap IntKind.i64 (f.I + (1 : Int))), D.i g.I, D.i h.I, D.i i.I, D.i j.I, D.i k.I, D.i l.I, D.b m.B, D.i n.I, D.b o.B, D.b p.B, D.i q.I, D.b r.B, D.i (s.I.toNat : Int), D.i (t.I.toNat : Int), D.i (u.I.toNat : Int), D.l v.L, D.l w.L, D.l x.L, D.l (List.take c.I.toNat y.L ++ List.take (List.length [[D.i (IntKind.wrap IntKind.i64 ((1 : Int) + f.I))]]) [[D.i (IntKind.wrap IntKind.i64 ((1 : Int) + f.I))]])]))) (T.leaf (Rd.again [D.i 1, D.i a.I, D.i b.I, D.i (c.I.toNat : Int), D.i (d.I.toNat : Int), D.i e.I, D.i (IntKind.wrap IntKind.i64 (f.I + (1 : Int))), D.i g.I, D.i h.I, D.i i.I, D.i j.I, D.i k.I, D.i l.I, D.b m.B, D.i n.I, D.b o.B, D.b p.B, D.i q.I, D.b r.B, D.i (s.I.toNat : Int), D.i (t.I.toNat : Int), D.i (u.I.toNat : Int), D.l v.L, D.l w.L, D.l x.L, D.l y.L])))))) (T.ite (decide ((f.I.toNat : Int) = (↑(0 + 1 + 1 + 1 + 1) : Int))) (T.need (decide (s.I.toNat ≤ v.L.length)) (T.need (decide (t.I.toNat ≤ w.L.length)) (T.need (decide (u.I.toNat ≤ x.L.length)) (T.need (yes (okPl g.I h.I i.I j.I k.I l.I ∧ List.length (List.take u.I.toNat x.L) < big)) (T.ite (anyL (both (befR i.I)) (List.take u.I.toNat x.L)) (T.need (decide (c.I.toNat ≤ y.L.length ∧ c.I.toNat + List.length (List.take (List.length [[D.i (IntKind.wrap IntKind.i64 ((1 : Int) + f.I))]]) [[D.i (IntKind.wrap IntKind.i64 ((1 : Int) + f.I))]]) ≤ 2 ^ 62 ∧ (c.I.toNat + List.length (List.take (List.length [[D.i (IntKind.wrap IntKind.i64 ((1 : Int) + f.I))]]) [[D.i (IntKind.wrap IntKind.i64 ((1 : Int) + f.I))]])) * Try.prog.types[109].bytes ≤ 2 ^ 47)) (T.leaf (Rd.again [D.i 1, D.i a.I, D.i b.I, D.i (↑(c.I.toNat + List.length (List.take (List.length [[D.i (IntKind.wrap IntKind.i64 ((1 : Int) + f.I))]]) [[D.i (IntKind.wrap IntKind.i64 ((1 : Int) + f.I))]])) : Int), D.i (d.I.toNat : Int), D.i e.I, D.i (IntKind.wrap IntKind.i64 (f.I + (1 : Int))), D.i g.I, D.i h.I, D.i i.I, D.i j.I, D.i k.I, D.i l.I, D.b m.B, D.i n.I, D.b o.B, D.b p.B, D.i q.I, D.b r.B, D.i (s.I.toNat : Int), D.i (t.I.toNat : Int), D.i (u.I.toNat : Int), D.l v.L, D.l w.L, D.l x.L, D.l (List.take c.I.toNat y.L ++ List.take (List.length [[D.i (IntKind.wrap IntKind.i64 ((1 : Int) + f.I))]]) [[D.i (IntKind.wrap IntKind.i64 ((1 : Int) + f.I))]])]))) (T.leaf (Rd.again [D.i 1, D.i a.I, D.i b.I, D.i (c.I.toNat : Int), D.i (d.I.toNat : Int), D.i e.I, D.i (IntKind.wrap IntKind.i64 (f.I + (1 : Int))), D.i g.I, D.i h.I, D.i i.I, D.i j.I, D.i k.I, D.i l.I, D.b m.B, D.i n.I, D.b o.B, D.b p.B, D.i q.I, D.b r.B, D.i (s.I.toNat : Int), D.i (t.I.toNat : Int), D.i (u.I.toNat : Int), D.l v.L, D.l w.L, D.l x.L, D.l y.L]))))))) (T.ite (decide ((f.I.toNat : Int) = (↑(0 + 1 + 1 + 1 + 1 + 1) : Int))) (T.need (decide (s.I.toNat ≤ v.L.length)) (T.need (decide (t.I.toNat ≤ w.L.length)) (T.need (decide (u.I.toNat ≤ x.L.length)) (T.need (yes (okPl g.I h.I i.I j.I k.I l.I ∧ List.length (List.take u.I.toNat x.L) < big ∧ okCa (List.take u.I.toNat x.L) ∧ tOK b.I)) (T.ite (anyL (both (misR g.I k.I b.I)) (List.take u.I.toNat x.L)) (T.need (decide (c.I.toNat ≤ y.L.length ∧ c.I.toNat + List.length (List.take (List.length [[D.i (IntKind.wrap IntKind.i64 ((1 : Int) + f.I))]]) [[D.i (IntKind.wrap IntKind.i64 ((1 : Int) + f.I))]]) ≤ 2 ^ 62 ∧ (c.I.toNat + List.length (List.take (List.length [[D.i (IntKind.wrap IntKind.i64 ((1 : Int) + f.I))]]) [[D.i (IntKind.wrap IntKind.i64 ((1 : Int) + f.I))]])) * Try.prog.types[109].bytes ≤ 2 ^ 47)) (T.leaf (Rd.again [D.i 1, D.i a.I, D.i b.I, D.i (↑(c.I.toNat + List.length (List.take (List.length [[D.i (IntKind.wrap IntKind.i64 ((1 : Int) + f.I))]]) [[D.i (IntKind.wrap IntKind.i64 ((1 : Int) + f.I))]])) : Int), D.i (d.I.toNat : Int), D.i e.I, D.i (IntKind.wrap IntKind.i64 (f.I + (1 : Int))), D.i g.I, D.i h.I, D.i i.I, D.i j.I, D.i k.I, D.i l.I, D.b m.B, D.i n.I, D.b o.B, D.b p.B, D.i q.I, D.b r.B, D.i (s.I.toNat : Int), D.i (t.I.toNat : Int), D.i (u.I.toNat : Int), D.l v.L, D.l w.L, D.l x.L, D.l (List.take c.I.toNat y.L ++ List.take (List.length [[D.i (IntKind.wrap IntKind.i64 ((1 : Int) + f.I))]]) [[D.i (IntKind.wrap IntKind.i64 ((1 : Int) + f.I))]])]))) (T.leaf (Rd.again [D.i 1, D.i a.I, D.i b.I, D.i (c.I.toNat : Int), D.i (d.I.toNat : Int), D.i e.I, D.i (IntKind.wrap IntKind.i64 (f.I + (1 : Int))), D.i g.I, D.i h.I, D.i i.I, D.i j.I, D.i k.I, D.i l.I, D.b m.B, D.i n.I, D.b o.B, D.b p.B, D.i q.I, D.b r.B, D.i (s.I.toNat : Int), D.i (t.I.toNat : Int), D.i (u.I.toNat : Int), D.l v.L, D.l w.L, D.l x.L, D.l y.L]))))))) (T.ite (decide ((f.I.toNat : Int) = (↑(0 + 1 + 1 + 1 + 1 + 1 + 1) : Int))) (T.need (decide (s.I.toNat ≤ v.L.length)) (T.need (decide (t.I.toNat ≤ w.L.length)) (T.need (decide (u.I.toNat ≤ x.L.length)) (T.need (yes (okPl g.I h.I i.I j.I k.I l.I ∧ List.length (List.take u.I.toNat x.L) < big ∧ okCa (List.take u.I.toNat x.L) ∧ tOK b.I)) (T.ite (anyL (both (intR j.I b.I)) (List.take u.I.toNat x.L)) (T.need (decide (c.I.toNat ≤ y.L.length ∧ c.I.toNat + List.length (List.take (List.length [[D.i (IntKind.wrap IntKind.i64 ((1 : Int) + f.I))]]) [[D.i (IntKind.wrap IntKind.i64 ((1 : Int) + f.I))]]) ≤ 2 ^ 62 ∧ (c.I.toNat + List.length (List.take (List.length [[D.i (IntKind.wrap IntKind.i64 ((1 : Int) + f.I))]]) [[D.i (IntKind.wrap IntKind.i64 ((1 : Int) + f.I))]])) * Try.prog.types[109].bytes ≤ 2 ^ 47)) (T.leaf (Rd.again [D.i 1, D.i a.I, D.i b.I, D.i (↑(c.I.toNat + List.length (List.take (List.length [[D.i (IntKind.wrap IntKind.i64 ((1 : Int) + f.I))]]) [[D.i (IntKind.wrap IntKind.i64 ((1 : Int) + f.I))]])) : Int), D.i (d.I.toNat : Int), D.i e.I, D.i (IntKind.wrap IntKind.i64 (f.I + (1 : Int))), D.i g.I, D.i h.I, D.i i.I, D.i j.I, D.i k.I, D.i l.I, D.b m.B, D.i n.I, D.b o.B, D.b p.B, D.i q.I, D.b r.B, D.i (s.I.toNat : Int), D.i (t.I.toNat : Int), D.i (u.I.toNat : Int), D.l v.L, D.l w.L, D.l x.L, D.l (List.take c.I.toNat y.L ++ List.take (List.length [[D.i (IntKind.wrap IntKind.i64 ((1 : Int) + f.I))]]) [[D.i (IntKind.wrap IntKind.i64 ((1 : Int) + f.I))]])]))) (T.leaf (Rd.again [D.i 1, D.i a.I, D.i b.I, D.i (c.I.toNat : Int), D.i (d.I.toNat : Int), D.i e.I, D.i (IntKind.wrap IntKind.i64 (f.I + (1 : Int))), D.i g.I, D.i h.I, D.i i.I, D.i j.I, D.i k.I, D.i l.I, D.b m.B, D.i n.I, D.b o.B, D.b p.B, D.i q.I, D.b r.B, D.i (s.I.toNat : Int), D.i (t.I.toNat : Int), D.i (u.I.toNat : Int), D.l v.L, D.l w.L, D.l x.L, D.l y.L]))))))) (T.need (decide ((f.I.toNat : Int) = (↑(0 + 1 + 1 + 1 + 1 + 1 + 1 + 1) : Int))) (T.need (decide (s.I.toNat ≤ v.L.length)) (T.need (decide (t.I.toNat ≤ w.L.length)) (T.need (decide (u.I.toNat ≤ x.L.length)) (T.need (yes (List.length (List.take u.I.toNat x.L) < big ∧ (0 : Int) ≤ a.I ∧ a.I ≤ (↑(List.length (List.take u.I.toNat x.L)) : Int))) (T.ite (anyL stR (List.drop a.I.toNat (List.take u.I.toNat x.L))) (T.need (decide (c.I.toNat ≤ y.L.length ∧ c.I.toNat + List.length (List.take (List.length [[D.i (IntKind.wrap IntKind.i64 ((1 : Int) + f.I))]]) [[D.i (IntKind.wrap IntKind.i64 ((1 : Int) + f.I))]]) ≤ 2 ^ 62 ∧ (c.I.toNat + List.length (List.take (List.length [[D.i (IntKind.wrap IntKind.i64 ((1 : Int) + f.I))]]) [[D.i (IntKind.wrap IntKind.i64 ((1 : Int) + f.I))]])) * Try.prog.types[109].bytes ≤ 2 ^ 47)) (T.leaf (Rd.again [D.i 1, D.i a.I, D.i b.I, D.i (↑(c.I.toNat + List.length (List.take (List.length [[D.i (IntKind.wrap IntKind.i64 ((1 : Int) + f.I))]]) [[D.i (IntKind.wrap IntKind.i64 ((1 : Int) + f.I))]])) : Int), D.i (d.I.toNat : Int), D.i e.I, D.i (IntKind.wrap IntKind.i64 (f.I + (1 : Int))), D.i g.I, D.i h.I, D.i i.I, D.i j.I, D.i k.I, D.i l.I, D.b m.B, D.i n.I, D.b o.B, D.b p.B, D.i q.I, D.b r.B, D.i (s.I.toNat : Int), D.i (t.I.toNat : Int), D.i (u.I.toNat : Int), D.l v.L, D.l w.L, D.l x.L, D.l (List.take c.I.toNat y.L ++ List.take (List.length [[D.i (IntKind.wrap IntKind.i64 ((1 : Int) + f.I))]]) [[D.i (IntKind.wrap IntKind.i64 ((1 : Int) + f.I))]])]))) (T.leaf (Rd.again [D.i 1, D.i a.I, D.i b.I, D.i (c.I.toNat : Int), D.i (d.I.toNat : Int), D.i e.I, D.i (IntKind.wrap IntKind.i64 (f.I + (1 : Int))), D.i g.I, D.i h.I, D.i i.I, D.i j.I, D.i k.I, D.i l.I, D.b m.B, D.i n.I, D.b o.B, D.b p.B, D.i q.I, D.b r.B, D.i (s.I.toNat : Int), D.i (t.I.toNat : Int), D.i (u.I.toNat : Int), D.l v.L, D.l w.L, D.l x.L, D.l y.L])))))))))))))))) (T.leaf (Rd.out (Ex.exit 0) [D.i 1, D.i (c.I.toNat : Int), D.i g.I, D.i h.I, D.i i.I, D.i j.I, D.i k.I, D.i l.I, D.b m.B, D.i n.I, D.b o.B, D.b p.B, D.i q.I, D.b r.B, D.i (s.I.toNat : Int), D.i (t.I.toNat : Int), D.i (u.I.toNat : Int), D.l v.L, D.l w.L, D.l x.L, D.l y.L]))) := by kernel_rfl
end Go.Proofs.Ytgmefblkmidglaa
namespace Go.Proofs.Ytgmefblkmidglaa
open Go.Lite
set_option maxRecDepth 100000
set_option linter.unusedVariables false
set_option linter.unusedSimpArgs false
theorem roundTK_headG {C : Cfg} {tab : Tab} {f : FuncId} {b : Code} {k : Nat} {s : LSig} {j : D} {n : Int} {r : List D} (h : j.I = n) (hs : 2 ≤ s.head.length) : roundTK C tab f b k s (j :: r) = roundTK C tab f b k s (.i n :: r) := by
  obtain ⟨live, head, exits⟩ := s
  match head, hs with
  | a :: b :: c, _ => simp only [roundTK, roundTG, headL, headA, List.headD_cons, List.tail_cons, I_i, h]
theorem rulesF_step (R : Nat → Bool) {j : Nat} (hj : j < 8) (o : List (List D)) : rulesF R j (8 - j) o = rulesF R (j + 1) (8 - (j + 1)) (if R j then o ++ [[.i (1 + j)]] else o) := by
  obtain ⟨k, hk⟩ : ∃ k, 8 - j = k + 1 := ⟨7 - j, by omega⟩
  rw [hk, show 8 - (j + 1) = k by omega]
  rfl
theorem rulesF_some (R : Nat → Bool) : ∀ (k j : Nat) (o : List (List D)), o ≠ [] → (rulesF R j k o).isEmpty = false
  | 0, j, o, h => by cases o <;> first | exact absurd rfl h | rfl
  | k + 1, j, o, h => rulesF_some R k (j + 1) _ (by split <;> simp [h])
theorem ok40_8 (n : Nat) : LoopSimK C (n + 6) 4 40 (loopOf C.P 40 8) (mkLK 4 l40_8 G40_8) := by
  refine loop_ofK hC (sp := sp40) (lp := lp40) (sw := sw40) ⟨ok61 (n + 5), ok45 (n + 5), ok65 (n + 5), ok66 (n + 2), ok67 (n + 2), ok68 (n + 5), ok69 n, ok70 n, ok71 n, ok72 (n + 2), trivial⟩ trivial 4 [] (by kernel_rfl) rfl (fun k hk => by cases hk) (by kernel_rfl) (fun ds => if (ds.getD 0 default).I = 0 then 8 - (ds.getD 5 default).I.toNat else 8 - (ds.getD 6 default).I.toNat) fun ds rr h => ?_
  unfold G40_8 at h
  split at h
  · rename_i j car t m n i p0 p1 p2 p3 p4 p5 ov os oh cv cs ch nr np nc rd po ca
    obtain ⟨hp, h⟩ := need_some h
    rw [yes_iff] at hp
    obtain ⟨hj, ⟨⟨hPl, ⟨hr, hpo, hc⟩, ⟨l1, l2, l3⟩, hlo1, hlo2, hoc⟩, hos, hcs⟩, ht, hcar, hm8, hn8, hi0, hi1⟩ := hp
    have hb := big_eq
    have hPl' := hPl
    unfold okPl at hPl'
    obtain ⟨k, hk⟩ : ∃ k : Nat, i.I = k := ⟨i.I.toNat, by omega⟩
    have hm : (if ([j, car, t, m, n, i, p0, p1, p2, p3, p4, p5, ov, os, oh, cv, cs, ch, nr, np, nc, rd, po, ca].getD 0 default).I = 0 then 8 - ([j, car, t, m, n, i, p0, p1, p2, p3, p4, p5, ov, os, oh, cv, cs, ch, nr, np, nc, rd, po, ca].getD 5 default).I.toNat else 8 - ([j, car, t, m, n, i, p0, p1, p2, p3, p4, p5, ov, os, oh, cv, cs, ch, nr, np, nc, rd, po, ca].getD 6 default).I.toNat) = 8 - k := by
      show (if j.I = 0 then 8 - i.I.toNat else _) = _
      rw [if_pos hj, hk, Int.toNat_natCast]
    refine ⟨by rw [fuelC, hm]; omega, ?_⟩
    rw [roundTK_headG (j := j) (n := 0) hj (by decide), show (roundTK C (mkTab sp40 lp40 sw40) 40 (loopOf C.P 40 8) 4 l40_8 [.i 0, car, t, m, n, i, p0, p1, p2, p3, p4, p5, ov, os, oh, cv, cs, ch, nr, np, nc, rd, po, ca]).run = _ from t40_8_0 car t m n i p0 p1 p2 p3 p4 p5 ov os oh cv cs ch nr np nc rd po ca]
    have e8 : (((8 : Int).toNat : Nat) : Int) = 8 := rfl
    
    simp only [hr, hpo, hc, hm8, hn8, e8, Int.toNat_natCast, List.take_length] at h ⊢
    have hlr : rd.L.length < big := by omega
    have hlp : po.L.length < big := by omega
    have hlc : ca.L.length < big := by omega
    have lr := Nat.le_refl rd.L.length
    have lp := Nat.le_refl po.L.length
    have lc := Nat.le_refl ca.L.length
    refine rd_if (fun hlt => ?_) fun hge => rd_out ?_
    · have hk2 : k < 8 := by omega
      rw [hk, Int.toNat_natCast] at h
      rw [rulesF_step _ hk2] at h
      have hme : 8 - (k + 1) < 8 - k := by omega
      have done1 : (ruleB p0.I p1.I p2.I p3.I p4.I ov.B cv.B rd.L po.L ca.L car.I t.I) k = true → ∀ x y : D, x.I = ((k + 1 : Nat) : Int) → y = .i (1 + k) → (G40_8 [.i 1, .i car.I, .i t.I, .i 1, .i 8, .i 8, x, .i p0.I, .i p1.I, .i p2.I, .i p3.I, .i p4.I, .i p5.I, .b ov.B, .i os.I, .b oh.B, .b cv.B, .i cs.I, .b ch.B, .i rd.L.length, .i po.L.length, .i ca.L.length, .l rd.L, .l po.L, .l ca.L, .l [[y]]]).run = some rr := fun hR x y hx hy => by
        subst hy
        refine (need_yes ⟨rfl, ⟨⟨hPl, ⟨rfl, rfl, rfl⟩, ⟨l1, l2, l3⟩, hlo1, hlo2, hoc⟩, hos, hcs⟩, ht, hcar, rfl, rfl, ⟨by omega, by omega⟩, rfl, by rw [hx]; simp only [L_l, List.length_singleton]; omega⟩).trans ?_
        rw [← h, hR, if_pos rfl, run_ite, if_neg (by rw [rulesF_some _ _ _ _ (by simp)]; exact Bool.false_ne_true)]
        simp only [hx, Int.toNat_natCast]
        rfl
      have done0 : (ruleB p0.I p1.I p2.I p3.I p4.I ov.B cv.B rd.L po.L ca.L car.I t.I) k = false → ∀ x : D, x.I = ((k + 1 : Nat) : Int) → (G40_8 [.i 0, .i car.I, .i t.I, .i 8, .i 8, x, .i p0.I, .i p1.I, .i p2.I, .i p3.I, .i p4.I, .i p5.I, .b ov.B, .i os.I, .b oh.B, .b cv.B, .i cs.I, .b ch.B, .i rd.L.length, .i po.L.length, .i ca.L.length, .l rd.L, .l po.L, .l ca.L]).run = some rr := fun hR x hx => by
        refine (need_yes ⟨rfl, ⟨⟨hPl, ⟨rfl, rfl, rfl⟩, ⟨l1, l2, l3⟩, hlo1, hlo2, hoc⟩, hos, hcs⟩, ht, hcar, rfl, rfl, by omega, by omega⟩).trans ?_
        rw [← h, hR, if_neg Bool.false_ne_true]
        simp only [hx, Int.toNat_natCast]
        rfl
      have m1 : ∀ x y : D, x.I = ((k + 1 : Nat) : Int) → (if ([.i 1, .i car.I, .i t.I, .i 1, .i 8, .i 8, x, .i p0.I, .i p1.I, .i p2.I, .i p3.I, .i p4.I, .i p5.I, .b ov.B, .i os.I, .b oh.B, .b cv.B, .i cs.I, .b ch.B, .i rd.L.length, .i po.L.length, .i ca.L.length, .l rd.L, .l po.L, .l ca.L, .l [[y]]].getD 0 default : D).I = 0 then 8 - ([.i 1, .i car.I, .i t.I, .i 1, .i 8, .i 8, x, .i p0.I, .i p1.I, .i p2.I, .i p3.I, .i p4.I, .i p5.I, .b ov.B, .i os.I, .b oh.B, .b cv.B, .i cs.I, .b ch.B, .i rd.L.length, .i po.L.length, .i ca.L.length, .l rd.L, .l po.L, .l ca.L, .l [[y]]].getD 5 default : D).I.toNat else 8 - ([.i 1, .i car.I, .i t.I, .i 1, .i 8, .i 8, x, .i p0.I, .i p1.I, .i p2.I, .i p3.I, .i p4.I, .i p5.I, .b ov.B, .i os.I, .b oh.B, .b cv.B, .i cs.I, .b ch.B, .i rd.L.length, .i po.L.length, .i ca.L.length, .l rd.L, .l po.L, .l ca.L, .l [[y]]].getD 6 default : D).I.toNat) < (if ([j, car, t, m, n, i, p0, p1, p2, p3, p4, p5, ov, os, oh, cv, cs, ch, nr, np, nc, rd, po, ca].getD 0 default).I = 0 then 8 - ([j, car, t, m, n, i, p0, p1, p2, p3, p4, p5, ov, os, oh, cv, cs, ch, nr, np, nc, rd, po, ca].getD 5 default).I.toNat else 8 - ([j, car, t, m, n, i, p0, p1, p2, p3, p4, p5, ov, os, oh, cv, cs, ch, nr, np, nc, rd, po, ca].getD 6 default).I.toNat) := fun x y hx => by
        rw [hm]
        show (if (1 : Int) = 0 then _ else 8 - x.I.toNat) < _
        rw [if_neg (by decide), hx, Int.toNat_natCast]
        exact hme
      have m0 : ∀ x : D, x.I = ((k + 1 : Nat) : Int) → (if ([.i 0, .i car.I, .i t.I, .i 8, .i 8, x, .i p0.I, .i p1.I, .i p2.I, .i p3.I, .i p4.I, .i p5.I, .b ov.B, .i os.I, .b oh.B, .b cv.B, .i cs.I, .b ch.B, .i rd.L.length, .i po.L.length, .i ca.L.length, .l rd.L, .l po.L, .l ca.L].getD 0 default : D).I = 0 then 8 - ([.i 0, .i car.I, .i t.I, .i 8, .i 8, x, .i p0.I, .i p1.I, .i p2.I, .i p3.I, .i p4.I, .i p5.I, .b ov.B, .i os.I, .b oh.B, .b cv.B, .i cs.I, .b ch.B, .i rd.L.length, .i po.L.length, .i ca.L.length, .l rd.L, .l po.L, .l ca.L].getD 5 default : D).I.toNat else 8 - ([.i 0, .i car.I, .i t.I, .i 8, .i 8, x, .i p0.I, .i p1.I, .i p2.I, .i p3.I, .i p4.I, .i p5.I, .b ov.B, .i os.I, .b oh.B, .b cv.B, .i cs.I, .b ch.B, .i rd.L.length, .i po.L.length, .i ca.L.length, .l rd.L, .l po.L, .l ca.L].getD 6 default : D).I.toNat) < (if ([j, car, t, m, n, i, p0, p1, p2, p3, p4, p5, ov, os, oh, cv, cs, ch, nr, np, nc, rd, po, ca].getD 0 default).I = 0 then 8 - ([j, car, t, m, n, i, p0, p1, p2, p3, p4, p5, ov, os, oh, cv, cs, ch, nr, np, nc, rd, po, ca].getD 5 default).I.toNat else 8 - ([j, car, t, m, n, i, p0, p1, p2, p3, p4, p5, ov, os, oh, cv, cs, ch, nr, np, nc, rd, po, ca].getD 6 default).I.toNat) := fun x hx => by
        rw [hm]
        show (if (0 : Int) = 0 then 8 - x.I.toNat else _) < _
        rw [if_pos rfl, hx, Int.toNat_natCast]
        exact hme
      refine rd_dec (by omega) ?_
      have hks : k = 0 ∨ k = 1 ∨ k = 2 ∨ k = 3 ∨ k = 4 ∨ k = 5 ∨ k = 6 ∨ k = 7 := by omega
      rcases hks with rfl | rfl | rfl | rfl | rfl | rfl | rfl | rfl <;> rw [hk]
      · have ws : IntKind.i64.wrap (((0 : Nat) : Int) + 1) = ((0 + 1 : Nat) : Int) := by rw [wrap_id (by omega) (by omega)]; rfl
        have wr : IntKind.i64.wrap (1 + ((0 : Nat) : Int)) = 1 + ((0 : Nat) : Int) := wrap_id (by omega) (by omega)
        exact rd_pos (by decide) (rd_dec lr (rd_dec lp (rd_dec lc (rd_not (fun c => rd_again (done1 (show (!_) = true by rw [c]; rfl) (.i _) (.i _) ws (congrArg D.i wr)) (m1 (.i _) (.i _) ws)) fun c => rd_again (done0 (show (!_) = false by rw [c]; rfl) (.i _) ws) (m0 (.i _) ws)))))
      · have ws : IntKind.i64.wrap (((1 : Nat) : Int) + 1) = ((1 + 1 : Nat) : Int) := by rw [wrap_id (by omega) (by omega)]; rfl
        have wr : IntKind.i64.wrap (1 + ((1 : Nat) : Int)) = 1 + ((1 : Nat) : Int) := wrap_id (by omega) (by omega)
        exact rd_neg (by decide) (rd_pos (by decide) (rd_dec lr (rd_dec lp (rd_dec lc (rd_yes hlr (rd_ite (fun c => rd_again (done1 c (.i _) (.i _) ws (congrArg D.i wr)) (m1 (.i _) (.i _) ws)) fun c => rd_again (done0 c (.i _) ws) (m0 (.i _) ws)))))))
      · have ws : IntKind.i64.wrap (((2 : Nat) : Int) + 1) = ((2 + 1 : Nat) : Int) := by rw [wrap_id (by omega) (by omega)]; rfl
        have wr : IntKind.i64.wrap (1 + ((2 : Nat) : Int)) = 1 + ((2 : Nat) : Int) := wrap_id (by omega) (by omega)
        exact rd_neg (by decide) (rd_neg (by decide) (rd_pos (by decide) (rd_dec lr (rd_dec lp (rd_dec lc (rd_yes ⟨hlp, hlo2, ht⟩ (rd_ite (fun c => rd_again (done1 c (.i _) (.i _) ws (congrArg D.i wr)) (m1 (.i _) (.i _) ws)) fun c => rd_again (done0 c (.i _) ws) (m0 (.i _) ws))))))))
      · have ws : IntKind.i64.wrap (((3 : Nat) : Int) + 1) = ((3 + 1 : Nat) : Int) := by rw [wrap_id (by omega) (by omega)]; rfl
        have wr : IntKind.i64.wrap (1 + ((3 : Nat) : Int)) = 1 + ((3 : Nat) : Int) := wrap_id (by omega) (by omega)
        exact rd_neg (by decide) (rd_neg (by decide) (rd_neg (by decide) (rd_pos (by decide) (rd_dec lr (rd_dec lp (rd_dec lc (rd_not (fun c => rd_again (done1 (show (!_) = true by rw [c]; rfl) (.i _) (.i _) ws (congrArg D.i wr)) (m1 (.i _) (.i _) ws)) fun c => rd_again (done0 (show (!_) = false by rw [c]; rfl) (.i _) ws) (m0 (.i _) ws))))))))
      · have ws : IntKind.i64.wrap (((4 : Nat) : Int) + 1) = ((4 + 1 : Nat) : Int) := by rw [wrap_id (by omega) (by omega)]; rfl
        have wr : IntKind.i64.wrap (1 + ((4 : Nat) : Int)) = 1 + ((4 : Nat) : Int) := wrap_id (by omega) (by omega)
        exact rd_neg (by decide) (rd_neg (by decide) (rd_neg (by decide) (rd_neg (by decide) (rd_pos (by decide) (rd_dec lr (rd_dec lp (rd_dec lc (rd_yes ⟨hPl, hlc⟩ (rd_ite (fun c => rd_again (done1 c (.i _) (.i _) ws (congrArg D.i wr)) (m1 (.i _) (.i _) ws)) fun c => rd_again (done0 c (.i _) ws) (m0 (.i _) ws))))))))))
      · have ws : IntKind.i64.wrap (((5 : Nat) : Int) + 1) = ((5 + 1 : Nat) : Int) := by rw [wrap_id (by omega) (by omega)]; rfl
        have wr : IntKind.i64.wrap (1 + ((5 : Nat) : Int)) = 1 + ((5 : Nat) : Int) := wrap_id (by omega) (by omega)
        exact rd_neg (by decide) (rd_neg (by decide) (rd_neg (by decide) (rd_neg (by decide) (rd_neg (by decide) (rd_pos (by decide) (rd_dec lr (rd_dec lp (rd_dec lc (rd_yes ⟨hPl, hlc, hoc, ht⟩ (rd_ite (fun c => rd_again (done1 c (.i _) (.i _) ws (congrArg D.i wr)) (m1 (.i _) (.i _) ws)) fun c => rd_again (done0 c (.i _) ws) (m0 (.i _) ws)))))))))))
      · have ws : IntKind.i64.wrap (((6 : Nat) : Int) + 1) = ((6 + 1 : Nat) : Int) := by rw [wrap_id (by omega) (by omega)]; rfl
        have wr : IntKind.i64.wrap (1 + ((6 : Nat) : Int)) = 1 + ((6 : Nat) : Int) := wrap_id (by omega) (by omega)
        exact rd_neg (by decide) (rd_neg (by decide) (rd_neg (by decide) (rd_neg (by decide) (rd_neg (by decide) (rd_neg (by decide) (rd_pos (by decide) (rd_dec lr (rd_dec lp (rd_dec lc (rd_yes ⟨hPl, hlc, hoc, ht⟩ (rd_ite (fun c => rd_again (done1 c (.i _) (.i _) ws (congrArg D.i wr)) (m1 (.i _) (.i _) ws)) fun c => rd_again (done0 c (.i _) ws) (m0 (.i _) ws))))))))))))
      · have ws : IntKind.i64.wrap (((7 : Nat) : Int) + 1) = ((7 + 1 : Nat) : Int) := by rw [wrap_id (by omega) (by omega)]; rfl
        have wr : IntKind.i64.wrap (1 + ((7 : Nat) : Int)) = 1 + ((7 : Nat) : Int) := wrap_id (by omega) (by omega)
        exact rd_neg (by decide) (rd_neg (by decide) (rd_neg (by decide) (rd_neg (by decide) (rd_neg (by decide) (rd_neg (by decide) (rd_neg (by decide) (rd_dec (by decide) (rd_dec lr (rd_dec lp (rd_dec lc (rd_yes ⟨hlc, hcar⟩ (rd_ite (fun c => rd_again (done1 c (.i _) (.i _) ws (congrArg D.i wr)) (m1 (.i _) (.i _) ws)) fun c => rd_again (done0 c (.i _) ws) (m0 (.i _) ws)))))))))))))
    · rw [hk, Int.toNat_natCast, show 8 - k = 0 by omega] at h
      rw [← h]
      rfl
  · rename_i j car t q m n i p0 p1 p2 p3 p4 p5 ov os oh cv cs ch nr np nc rd po ca o
    obtain ⟨hp, h⟩ := need_some h
    rw [yes_iff] at hp
    obtain ⟨hj, ⟨⟨hPl, ⟨hr, hpo, hc⟩, ⟨l1, l2, l3⟩, hlo1, hlo2, hoc⟩, hos, hcs⟩, ht, hcar, hm8, hn8, ⟨hi0, hi1⟩, hq, hol⟩ := hp
    have hb := big_eq
    have hPl' := hPl
    unfold okPl at hPl'
    obtain ⟨k, hk⟩ : ∃ k : Nat, i.I = k := ⟨i.I.toNat, by omega⟩
    have hm : (if ([j, car, t, q, m, n, i, p0, p1, p2, p3, p4, p5, ov, os, oh, cv, cs, ch, nr, np, nc, rd, po, ca, o].getD 0 default).I = 0 then 8 - ([j, car, t, q, m, n, i, p0, p1, p2, p3, p4, p5, ov, os, oh, cv, cs, ch, nr, np, nc, rd, po, ca, o].getD 5 default).I.toNat else 8 - ([j, car, t, q, m, n, i, p0, p1, p2, p3, p4, p5, ov, os, oh, cv, cs, ch, nr, np, nc, rd, po, ca, o].getD 6 default).I.toNat) = 8 - k := by
      show (if j.I = 0 then _ else 8 - i.I.toNat) = _
      rw [if_neg (by omega), hk, Int.toNat_natCast]
    refine ⟨by rw [fuelC, hm]; omega, ?_⟩
    rw [roundTK_headG (j := j) (n := 1) hj (by decide), show (roundTK C (mkTab sp40 lp40 sw40) 40 (loopOf C.P 40 8) 4 l40_8 [.i 1, car, t, q, m, n, i, p0, p1, p2, p3, p4, p5, ov, os, oh, cv, cs, ch, nr, np, nc, rd, po, ca, o]).run = _ from t40_8_1 car t q m n i p0 p1 p2 p3 p4 p5 ov os oh cv cs ch nr np nc rd po ca o]
    have e8 : (((8 : Int).toNat : Nat) : Int) = 8 := rfl
    have eb : Try.prog.types[109].bytes = 8 := by kernel_rfl
    simp only [hr, hpo, hc, hm8, hn8, hq, eb, e8, Int.toNat_natCast, List.take_length, List.length_singleton] at h ⊢
    have hlr : rd.L.length < big := by omega
    have hlp : po.L.length < big := by omega
    have hlc : ca.L.length < big := by omega
    have lr := Nat.le_refl rd.L.length
    have lp := Nat.le_refl po.L.length
    have lc := Nat.le_refl ca.L.length
    refine rd_if (fun hlt => ?_) fun hge => rd_out ?_
    · have hk2 : k < 8 := by omega
      rw [hk, Int.toNat_natCast] at h
      rw [rulesF_step _ hk2] at h
      have hme : 8 - (k + 1) < 8 - k := by omega
      have done1 : (ruleB p0.I p1.I p2.I p3.I p4.I ov.B cv.B rd.L po.L ca.L car.I t.I) k = true → ∀ x y : D, x.I = ((k + 1 : Nat) : Int) → y = .i (1 + k) → (G40_8 [.i 1, .i car.I, .i t.I, .i ((o.L.length + 1 : Nat) : Int), .i 8, .i 8, x, .i p0.I, .i p1.I, .i p2.I, .i p3.I, .i p4.I, .i p5.I, .b ov.B, .i os.I, .b oh.B, .b cv.B, .i cs.I, .b ch.B, .i rd.L.length, .i po.L.length, .i ca.L.length, .l rd.L, .l po.L, .l ca.L, .l (o.L ++ [[y]])]).run = some rr := fun hR x y hx hy => by
        subst hy
        refine (need_yes ⟨rfl, ⟨⟨hPl, ⟨rfl, rfl, rfl⟩, ⟨l1, l2, l3⟩, hlo1, hlo2, hoc⟩, hos, hcs⟩, ht, hcar, rfl, rfl, ⟨by omega, by omega⟩, by simp only [I_i, L_l, List.length_append, List.length_singleton], by rw [hx]; simp only [L_l, List.length_append, List.length_singleton]; omega⟩).trans ?_
        rw [← h, hR, if_pos rfl]
        simp only [hx, Int.toNat_natCast]
        rfl
      have done0 : (ruleB p0.I p1.I p2.I p3.I p4.I ov.B cv.B rd.L po.L ca.L car.I t.I) k = false → ∀ x : D, x.I = ((k + 1 : Nat) : Int) → (G40_8 [.i 1, .i car.I, .i t.I, .i o.L.length, .i 8, .i 8, x, .i p0.I, .i p1.I, .i p2.I, .i p3.I, .i p4.I, .i p5.I, .b ov.B, .i os.I, .b oh.B, .b cv.B, .i cs.I, .b ch.B, .i rd.L.length, .i po.L.length, .i ca.L.length, .l rd.L, .l po.L, .l ca.L, .l o.L]).run = some rr := fun hR x hx => by
        refine (need_yes ⟨rfl, ⟨⟨hPl, ⟨rfl, rfl, rfl⟩, ⟨l1, l2, l3⟩, hlo1, hlo2, hoc⟩, hos, hcs⟩, ht, hcar, rfl, rfl, ⟨by omega, by omega⟩, rfl, by rw [hx]; simp only [L_l]; omega⟩).trans ?_
        rw [← h, hR, if_neg Bool.false_ne_true]
        simp only [hx, Int.toNat_natCast]
        rfl
      have m1 : ∀ x y z w : D, x.I = ((k + 1 : Nat) : Int) → (if ([.i 1, .i car.I, .i t.I, z, .i 8, .i 8, x, .i p0.I, .i p1.I, .i p2.I, .i p3.I, .i p4.I, .i p5.I, .b ov.B, .i os.I, .b oh.B, .b cv.B, .i cs.I, .b ch.B, .i rd.L.length, .i po.L.length, .i ca.L.length, .l rd.L, .l po.L, .l ca.L, w].getD 0 default : D).I = 0 then 8 - ([.i 1, .i car.I, .i t.I, z, .i 8, .i 8, x, .i p0.I, .i p1.I, .i p2.I, .i p3.I, .i p4.I, .i p5.I, .b ov.B, .i os.I, .b oh.B, .b cv.B, .i cs.I, .b ch.B, .i rd.L.length, .i po.L.length, .i ca.L.length, .l rd.L, .l po.L, .l ca.L, w].getD 5 default : D).I.toNat else 8 - ([.i 1, .i car.I, .i t.I, z, .i 8, .i 8, x, .i p0.I, .i p1.I, .i p2.I, .i p3.I, .i p4.I, .i p5.I, .b ov.B, .i os.I, .b oh.B, .b cv.B, .i cs.I, .b ch.B, .i rd.L.length, .i po.L.length, .i ca.L.length, .l rd.L, .l po.L, .l ca.L, w].getD 6 default : D).I.toNat) < (if ([j, car, t, q, m, n, i, p0, p1, p2, p3, p4, p5, ov, os, oh, cv, cs, ch, nr, np, nc, rd, po, ca, o].getD 0 default).I = 0 then 8 - ([j, car, t, q, m, n, i, p0, p1, p2, p3, p4, p5, ov, os, oh, cv, cs, ch, nr, np, nc, rd, po, ca, o].getD 5 default).I.toNat else 8 - ([j, car, t, q, m, n, i, p0, p1, p2, p3, p4, p5, ov, os, oh, cv, cs, ch, nr, np, nc, rd, po, ca, o].getD 6 default).I.toNat) := fun x y z w hx => by
        rw [hm]
        show (if (1 : Int) = 0 then _ else 8 - x.I.toNat) < _
        rw [if_neg (by decide), hx, Int.toNat_natCast]
        exact hme
      have hroom : o.L.length ≤ o.L.length ∧ o.L.length + 1 ≤ 2 ^ 62 ∧ (o.L.length + 1) * 8 ≤ 2 ^ 47 := by omega
      refine rd_dec (by omega) ?_
      have hks : k = 0 ∨ k = 1 ∨ k = 2 ∨ k = 3 ∨ k = 4 ∨ k = 5 ∨ k = 6 ∨ k = 7 := by omega
      rcases hks with rfl | rfl | rfl | rfl | rfl | rfl | rfl | rfl <;> rw [hk]
      · have ws : IntKind.i64.wrap (((0 : Nat) : Int) + 1) = ((0 + 1 : Nat) : Int) := by rw [wrap_id (by omega) (by omega)]; rfl
        have wr : IntKind.i64.wrap (1 + ((0 : Nat) : Int)) = 1 + ((0 : Nat) : Int) := wrap_id (by omega) (by omega)
        exact rd_pos (by decide) (rd_dec lr (rd_dec lp (rd_dec lc (rd_not (fun c => rd_dec hroom (rd_again (done1 (show (!_) = true by rw [c]; rfl) (.i _) (.i _) ws (congrArg D.i wr)) (m1 (.i _) (.i 0) (.i _) (.l _) ws))) fun c => rd_again (done0 (show (!_) = false by rw [c]; rfl) (.i _) ws) (m1 (.i _) (.i 0) (.i _) (.l _) ws)))))
      · have ws : IntKind.i64.wrap (((1 : Nat) : Int) + 1) = ((1 + 1 : Nat) : Int) := by rw [wrap_id (by omega) (by omega)]; rfl
        have wr : IntKind.i64.wrap (1 + ((1 : Nat) : Int)) = 1 + ((1 : Nat) : Int) := wrap_id (by omega) (by omega)
        exact rd_neg (by decide) (rd_pos (by decide) (rd_dec lr (rd_dec lp (rd_dec lc (rd_yes hlr (rd_ite (fun c => rd_dec hroom (rd_again (done1 c (.i _) (.i _) ws (congrArg D.i wr)) (m1 (.i _) (.i 0) (.i _) (.l _) ws))) fun c => rd_again (done0 c (.i _) ws) (m1 (.i _) (.i 0) (.i _) (.l _) ws)))))))
      · have ws : IntKind.i64.wrap (((2 : Nat) : Int) + 1) = ((2 + 1 : Nat) : Int) := by rw [wrap_id (by omega) (by omega)]; rfl
        have wr : IntKind.i64.wrap (1 + ((2 : Nat) : Int)) = 1 + ((2 : Nat) : Int) := wrap_id (by omega) (by omega)
        exact rd_neg (by decide) (rd_neg (by decide) (rd_pos (by decide) (rd_dec lr (rd_dec lp (rd_dec lc (rd_yes ⟨hlp, hlo2, ht⟩ (rd_ite (fun c => rd_dec hroom (rd_again (done1 c (.i _) (.i _) ws (congrArg D.i wr)) (m1 (.i _) (.i 0) (.i _) (.l _) ws))) fun c => rd_again (done0 c (.i _) ws) (m1 (.i _) (.i 0) (.i _) (.l _) ws))))))))
      · have ws : IntKind.i64.wrap (((3 : Nat) : Int) + 1) = ((3 + 1 : Nat) : Int) := by rw [wrap_id (by omega) (by omega)]; rfl
        have wr : IntKind.i64.wrap (1 + ((3 : Nat) : Int)) = 1 + ((3 : Nat) : Int) := wrap_id (by omega) (by omega)
        exact rd_neg (by decide) (rd_neg (by decide) (rd_neg (by decide) (rd_pos (by decide) (rd_dec lr (rd_dec lp (rd_dec lc (rd_not (fun c => rd_dec hroom (rd_again (done1 (show (!_) = true by rw [c]; rfl) (.i _) (.i _) ws (congrArg D.i wr)) (m1 (.i _) (.i 0) (.i _) (.l _) ws))) fun c => rd_again (done0 (show (!_) = false by rw [c]; rfl) (.i _) ws) (m1 (.i _) (.i 0) (.i _) (.l _) ws))))))))
      · have ws : IntKind.i64.wrap (((4 : Nat) : Int) + 1) = ((4 + 1 : Nat) : Int) := by rw [wrap_id (by omega) (by omega)]; rfl
        have wr : IntKind.i64.wrap (1 + ((4 : Nat) : Int)) = 1 + ((4 : Nat) : Int) := wrap_id (by omega) (by omega)
        exact rd_neg (by decide) (rd_neg (by decide) (rd_neg (by decide) (rd_neg (by decide) (rd_pos (by decide) (rd_dec lr (rd_dec lp (rd_dec lc (rd_yes ⟨hPl, hlc⟩ (rd_ite (fun c => rd_dec hroom (rd_again (done1 c (.i _) (.i _) ws (congrArg D.i wr)) (m1 (.i _) (.i 0) (.i _) (.l _) ws))) fun c => rd_again (done0 c (.i _) ws) (m1 (.i _) (.i 0) (.i _) (.l _) ws))))))))))
      · have ws : IntKind.i64.wrap (((5 : Nat) : Int) + 1) = ((5 + 1 : Nat) : Int) := by rw [wrap_id (by omega) (by omega)]; rfl
        have wr : IntKind.i64.wrap (1 + ((5 : Nat) : Int)) = 1 + ((5 : Nat) : Int) := wrap_id (by omega) (by omega)
        exact rd_neg (by decide) (rd_neg (by decide) (rd_neg (by decide) (rd_neg (by decide) (rd_neg (by decide) (rd_pos (by decide) (rd_dec lr (rd_dec lp (rd_dec lc (rd_yes ⟨hPl, hlc, hoc, ht⟩ (rd_ite (fun c => rd_dec hroom (rd_again (done1 c (.i _) (.i _) ws (congrArg D.i wr)) (m1 (.i _) (.i 0) (.i _) (.l _) ws))) fun c => rd_again (done0 c (.i _) ws) (m1 (.i _) (.i 0) (.i _) (.l _) ws)))))))))))
      · have ws : IntKind.i64.wrap (((6 : Nat) : Int) + 1) = ((6 + 1 : Nat) : Int) := by rw [wrap_id (by omega) (by omega)]; rfl
        have wr : IntKind.i64.wrap (1 + ((6 : Nat) : Int)) = 1 + ((6 : Nat) : Int) := wrap_id (by omega) (by omega)
        exact rd_neg (by decide) (rd_neg (by decide) (rd_neg (by decide) (rd_neg (by decide) (rd_neg (by decide) (rd_neg (by decide) (rd_pos (by decide) (rd_dec lr (rd_dec lp (rd_dec lc (rd_yes ⟨hPl, hlc, hoc, ht⟩ (rd_ite (fun c => rd_dec hroom (rd_again (done1 c (.i _) (.i _) ws (congrArg D.i wr)) (m1 (.i _) (.i 0) (.i _) (.l _) ws))) fun c => rd_again (done0 c (.i _) ws) (m1 (.i _) (.i 0) (.i _) (.l _) ws))))))))))))
      · have ws : IntKind.i64.wrap (((7 : Nat) : Int) + 1) = ((7 + 1 : Nat) : Int) := by rw [wrap_id (by omega) (by omega)]; rfl
        have wr : IntKind.i64.wrap (1 + ((7 : Nat) : Int)) = 1 + ((7 : Nat) : Int) := wrap_id (by omega) (by omega)
        exact rd_neg (by decide) (rd_neg (by decide) (rd_neg (by decide) (rd_neg (by decide) (rd_neg (by decide) (rd_neg (by decide) (rd_neg (by decide) (rd_dec (by decide) (rd_dec lr (rd_dec lp (rd_dec lc (rd_yes ⟨hlc, hcar⟩ (rd_ite (fun c => rd_dec hroom (rd_again (done1 c (.i _) (.i _) ws (congrArg D.i wr)) (m1 (.i _) (.i 0) (.i _) (.l _) ws))) fun c => rd_again (done0 c (.i _) ws) (m1 (.i _) (.i 0) (.i _) (.l _) ws)))))))))))))
    · rw [hk, Int.toNat_natCast, show 8 - k = 0 by omega] at h
      rw [← h]
      rfl
  · cases h
theorem ok40 (n : Nat) : FnOKW C (n + 7) 40 (mkFW s40 G40) := by
  refine fn_ofW hC (sp := sp40) (lp := lp40) (sw := sw40) ⟨ok61 (n + 5), ok45 (n + 5), ok65 (n + 5), ok66 (n + 2), ok67 (n + 2), ok68 (n + 5), ok69 n, ok70 n, ok71 n, ok72 (n + 2), trivial⟩ trivial (by kernel_rfl) [8] (by kernel_rfl) (by kernel_rfl) (fun k hk L hL => by simp at hk; subst hk; cases hL; exact ok40_8 n) fun ds r hh => ?_
  unfold G40 at hh
  split at hh
  · rename_i car t p0 p1 p2 p3 p4 p5 ov os oh cv cs ch nr np nc rd po ca
    obtain ⟨hp, hh⟩ := need_some hh
    rw [yes_iff] at hp
    obtain ⟨⟨hPl, ⟨hr, hpo, hc⟩, ⟨l1, l2, l3⟩, hlo1, hlo2, hoc⟩, hos, hcs⟩ := hp
    have hPl' := hPl
    unfold okPl at hPl'
    refine (t40 car t p0 p1 p2 p3 p4 p5 ov os oh cv cs ch nr np nc rd po ca).trans ?_
    rw [← hh]
    have e5 : IntKind.i64.wrap (p5.I - 1) = p5.I - 1 := wrap_id (by omega) (by omega)
    have z0 : (0 : Int).toNat = 0 := rfl
    simp only [hr, hpo, hc, e5, z0, Int.toNat_natCast, List.take_length, Nat.sub_zero]
    refine go_dec (Nat.le_refl _) (go_dec (Nat.le_refl _) (go_dec (Nat.le_refl _) (go_notT (decide_eq_true (by omega)) (go_not (fun c => ?_) fun c1 => go_not (fun c => ?_) fun c2 => ?_))))
    · have : validB p5.I car.I t.I = false := decide_eq_false fun h' => by
        rw [within_dec, decide_eq_true h'.1] at c; cases c
      rw [this]
      rfl
    · have : validB p5.I car.I t.I = false := decide_eq_false fun h' => by
        rw [within_dec, decide_eq_true h'.2] at c; cases c
      rw [this]
      rfl
    · have h1 := of_decide_eq_true (within_dec.symm.trans c1)
      have h2 := of_decide_eq_true (within_dec.symm.trans c2)
      have : validB p5.I car.I t.I = true := decide_eq_true ⟨h1, h2⟩
      rw [this]
      refine go_yes ?_ rfl
      refine ⟨?_, ⟨⟨hPl, ?_, ⟨l1, l2, l3⟩, hlo1, hlo2, hoc⟩, hos, hcs⟩, h2, ⟨h1.1, by omega⟩, ?_, ?_, ?_, ?_⟩
      all_goals first
        | trivial
        | exact ⟨trivial, trivial, trivial⟩
        | decide
  · cases hh
theorem ok39 (n : Nat) : FnOKW C (n + 8) 39 (mkFW s39 G39) := by
  refine fn_ofW hC (sp := sp39) (lp := lp39) (sw := sw39) trivial ⟨ok40 n, trivial⟩ (by kernel_rfl) [] (by kernel_rfl) rfl (fun k hk => by cases hk) fun ds r hh => ?_
  unfold G39 at hh
  split at hh
  · rename_i car t p0 p1 p2 p3 p4 p5 ov os oh cv cs ch nr np nc rd po ca
    obtain ⟨hp, hh⟩ := need_some hh
    rw [yes_iff] at hp
    have hp0 := hp
    obtain ⟨⟨hPl, ⟨hr, hpo, hc⟩, ⟨l1, l2, l3⟩, hlo1, hlo2, hoc⟩, hos, hcs⟩ := hp
    have hPl' := hPl
    unfold okPl at hPl'
    refine (t39 car t p0 p1 p2 p3 p4 p5 ov os oh cv cs ch nr np nc rd po ca).trans ?_
    rw [← hh]
    rw [hr, hpo, hc] at hp0
    simp only [hr, hpo, hc, Int.toNat_natCast]
    refine go_yes hp0 (go_ite (fun c => ?_) fun c => ?_)
    · rw [c]
      have hv := of_decide_eq_true c
      have ht : car.I.toNat < ca.L.length := by omega
      refine go_ite (fun c1 => ?_) fun c1 => ?_
      · rw [c1]
        refine go_dec ⟨hv.1.1, by omega⟩ (go_dec ht (go_dec ⟨hv.1.1, by omega⟩ (go_dec (by rw [List.length_set]; exact ht) ?_)))
        have e1 : ∀ c : List D, updC c [.b true] (0 + 0) 0 (List.length [K.bool, K.int .i64, K.int .i64, K.bool, K.bool]) = [.b true, c.getD 1 default, c.getD 2 default, c.getD 3 default, c.getD 4 default] := fun c => by simp [updC]
        have e2 : ∀ c : List D, updC c [.i t.I] (0 + 1) 0 (List.length [K.bool, K.int .i64, K.int .i64, K.bool, K.bool]) = [c.getD 0 default, .i t.I, c.getD 2 default, c.getD 3 default, c.getD 4 default] := fun c => by simp [updC]
        have e3 : ∀ x : List D, (ca.L.set car.I.toNat x).getD car.I.toNat [] = x := fun x => by simp [List.getD_eq_getElem?_getD, List.getElem?_set_self ht]
        rw [e1, e3, e2, List.set_set]
        rfl
      · rw [c1]
        refine go_if (fun c2 => rfl) fun c2 => ?_
        exfalso
        generalize rulesF _ 0 8 [] = l at c1 c2
        cases l
        · cases c1
        · simp only [List.length_cons] at c2; omega
    · rw [c]
      rfl
  · cases hh
end Go.Proofs.Ytgmefblkmidglaa
namespace Go.Proofs.Ytgmefblkmidglaa
open Go.Lite
set_option maxRecDepth 100000
set_option linter.unusedVariables false
set_option linter.unusedSimpArgs false
theorem pick3 {α : Type} {c1 c2 : Bool} {a b c : α} {x : Option α} (h : (T.ite c1 (.leaf a) (.ite c2 (.leaf b) (.leaf c))).run = x) : (c1 = true → some a = x) ∧ (c1 = false → c2 = true → some b = x) ∧ (c1 = false → c2 = false → some c = x) := by
  cases c1 <;> cases c2 <;> simp only [run_ite, run_leaf, if_true, if_false, Bool.false_eq_true] at h
  · exact ⟨(fun h' => by cases h'), (fun _ h' => by cases h'), fun _ _ => h⟩
  · exact ⟨(fun h' => by cases h'), (fun _ _ => h), (fun _ h' => by cases h')⟩
  · exact ⟨(fun _ => h), (fun h' => by cases h'), (fun h' => by cases h')⟩
  · exact ⟨(fun _ => h), (fun h' => by cases h'), (fun h' => by cases h')⟩
theorem rulesF_ne (R : Nat → Bool) : ∀ (k i : Nat) (o : List (List D)), o ≠ [] → rulesF R i k o ≠ []
  | 0, _, _, h => h
  | k + 1, i, o, h => rulesF_ne R k (i + 1) _ (by split <;> simp [h])
theorem rulesF_empty (R : Nat → Bool) : ∀ (k i : Nat), (rulesF R i k []).isEmpty = true → ∀ j, i ≤ j → j < i + k → R j = false
  | 0, _, _, _, h1, h2 => by omega
  | k + 1, i, h, j, h1, h2 => by
    unfold rulesF at h
    cases hr : R i with
    | true =>
      rw [hr, if_pos rfl] at h
      exact absurd (List.isEmpty_iff.1 h) (rulesF_ne R k _ _ (by simp))
    | false =>
      rw [hr, if_neg Bool.false_ne_true] at h
      by_cases e : j = i
      · rw [e]; exact hr
      · exact rulesF_empty R k (i + 1) h j (by omega) (by omega)
theorem rulesF_len (R : Nat → Bool) : ∀ (k i : Nat) (o : List (List D)), (rulesF R i k o).length ≤ o.length + k
  | 0, _, _ => Nat.le_refl _
  | k + 1, i, o => by
    refine Nat.le_trans (rulesF_len R k (i + 1) _) ?_
    split
    · rw [List.length_append]; simp only [List.length_singleton]; omega
    · omega
theorem sameI_self (a : List (List D)) : sameI a a = true := by
  unfold sameI
  rw [decide_eq_true rfl, Bool.true_and]
  exact allFrom_iff.2 fun j _ _ => beq_self_eq_true _
theorem validB_yes {p5 car t : Int} (h : validB p5 car t = true) : (0 ≤ car ∧ car < p5) ∧ 0 ≤ t ∧ t ≤ 100000 := by
  have := of_decide_eq_true h
  omega
theorem validB_no {p5 car t : Int} (h : validB p5 car t = false) : ¬ ((0 ≤ car ∧ car < p5) ∧ 0 ≤ t ∧ t ≤ 100000) := fun h' => by
  have := of_decide_eq_false h
  omega
theorem start_same {p0 p1 p2 p3 p4 car t : Int} {ov cv : Bool} {rd po ca : List (List D)} (hcan : ∀ j, j < ca.length → ca.getD j [] = canC (ca.getD j [])) (hun : ∀ j, j < ca.length → bx (ca.getD j []) 0 = false → ix (ca.getD j []) 2 = -1 ∧ bx (ca.getD j []) 3 = false ∧ bx (ca.getD j []) 4 = false)
    (h0 : 0 ≤ car) (h1 : car < ca.length) (he : (rulesF (ruleB p0 p1 p2 p3 p4 ov cv rd po ca car t) 0 8 []).isEmpty = true) : bx (ca.getD car.toNat []) 0 = false ∧ ca.set car.toNat [.b true, .i t, .i (-1), .b false, .b false] = startC ca car.toNat t := by
  have h7 := rulesF_empty _ 8 0 he 7 (by omega) (by omega)
  have h7 : anyL stR (ca.drop car.toNat) = false := h7
  rw [any_drop ca h0, Bool.not_eq_false', allFrom_iff] at h7
  have h8 := h7 car.toNat (Nat.zero_le _) (by omega)
  rw [decide_eq_true (by omega : ((car.toNat : Nat) : Int) ≥ car), Bool.and_true, Bool.not_eq_true'] at h8
  refine ⟨h8, ?_⟩
  obtain ⟨u1, u2, u3⟩ := hun car.toNat (by omega) h8
  unfold startC
  rw [hcan car.toNat (by omega)]
  show _ = ca.set car.toNat [.b true, .i t, .i (ix (ca.getD car.toNat []) 2), .b (bx (ca.getD car.toNat []) 3), .b (bx (ca.getD car.toNat []) 4)]
  rw [u1, u2, u3]
theorem ok1037 (n : Nat) : FnOKW C (n + 9) 37 (mkFW s1037 G1037) := by
  refine fn_ofW hC (sp := sp1037) (lp := lp1037) (sw := sw1037) ⟨ok58 (n + 6), ok60 (n + 6), ok41 (n + 6), ok42 (n + 6), trivial⟩ ⟨ok38 (n + 5), ok1059 (n + 7), ok40 (n + 1), ok39 n, trivial⟩ (by kernel_rfl) [] (by kernel_rfl) rfl (fun k hk => by cases hk) fun ds r hh => ?_
  unfold G1037 at hh
  split at hh
  · rename_i kd k s p c car t p0 p1 p2 p3 p4 p5 ov os oh cv cs ch nr np nc q0 q1 q2 q3 q4 q5 nd rd po ca da
    obtain ⟨hp, hh⟩ := need_some hh
    rw [yes_iff] at hp
    obtain ⟨hG, hos, hcs, ⟨e0, e1, e2, e3, e4, e5⟩, hnd, hda, hcan, hun, hsame, hevl⟩ := hp
    have hG : okG p0.I p1.I p2.I p3.I p4.I p5.I nr.I np.I nc.I rd.L po.L ca.L := hG
    have hos : tOK os.I := hos
    have hcs : tOK cs.I := hcs
    have hda : da.L = ca.L := hda
    have hcan : ∀ j, j < ca.L.length → ca.L.getD j [] = canC (ca.L.getD j []) := hcan
    have hun : ∀ j, j < ca.L.length → bx (ca.L.getD j []) 0 = false → ix (ca.L.getD j []) 2 = -1 ∧ bx (ca.L.getD j []) 3 = false ∧ bx (ca.L.getD j []) 4 = false := hun
    have hG0 := hG
    obtain ⟨hPl, ⟨hr, hpo, hc⟩, ⟨l1, l2, l3⟩, hlo1, hlo2, hoc⟩ := hG0
    have hb := big_eq
    have hPl' := hPl
    unfold okPl at hPl'
    have hm : 0 ≤ car.I → mayF p0.I p1.I p2.I p3.I p4.I p5.I car.I t.I [] ca.L = rulesF (ruleB p0.I p1.I p2.I p3.I p4.I ov.B cv.B rd.L po.L ca.L car.I t.I) 0 8 [] := fun h => rules_same hsame l1 l2 l3 h
    refine (t1037 kd k s p c car t p0 p1 p2 p3 p4 p5 ov os oh cv cs ch nr np nc q0 q1 q2 q3 q4 q5 nd rd po ca da).trans ?_
    simp only [e0, e1, e2, e3, e4, e5, hr, hpo, hc, hnd, hda, Int.toNat_natCast, List.take_length] at hh ⊢
    rw [hr, hpo, hc] at hG
    have hG : _ ∧ _ ∧ _ := ⟨hG, hos, hcs⟩
    have upAll : updC (ca.L.getD car.I.toNat []) [.b true, .i t.I, .i (-1), .b false, .b false] 0 0 (List.length [K.bool, K.int .i64, K.int .i64, K.bool, K.bool]) = [.b true, .i t.I, .i (-1), .b false, .b false] := by simp [updC]
    have hst := fun (h : (0 ≤ car.I ∧ car.I < p5.I) ∧ 0 ≤ t.I ∧ t.I ≤ 100000) h' => start_same (p0 := p0.I) (p1 := p1.I) (p2 := p2.I) (p3 := p3.I) (p4 := p4.I) (ov := ov.B) (cv := cv.B) (rd := rd.L) (po := po.L) (t := t.I) hcan hun h.1.1 (by omega) h'
    have hE : evB p0.I p5.I k.I s.I p.I c.I = true → 0 ≤ c.I ∧ c.I < (ca.L.length : Int) := fun h => by have := of_decide_eq_true h; omega
    have hv1 := @validB_yes p5.I car.I t.I
    have hv0 := @validB_no p5.I car.I t.I
    have hMay : 0 ≤ car.I → t.I ≥ 0 → t.I ≤ 100000 → okPl p0.I p1.I p2.I p3.I p4.I p5.I ∧ p5.I = (ca.L.length : Int) ∧ List.length ([] : List (List D)) < big ∧ okCa ca.L ∧ tOK t.I ∧ 0 ≤ car.I := fun h1 h2 h3 => ⟨hPl, l3.symm, by simp only [List.length_nil]; omega, hoc, ⟨h2, h3⟩, h1⟩
    have hCar : 1 ≤ p5.I ∧ p5.I ≤ 200 ∧ (ca.L.length : Int) = p5.I := ⟨by omega, by omega, l3⟩
    have hrl := rulesF_len (ruleB p0.I p1.I p2.I p3.I p4.I ov.B cv.B rd.L po.L ca.L car.I t.I) 8 0 []
    simp only [List.length_nil] at hrl
    have hL1 : 0 < big ∧ 0 < big := by omega
    have hL4 : (rulesF (ruleB p0.I p1.I p2.I p3.I p4.I ov.B cv.B rd.L po.L ca.L car.I t.I) 0 8 []).length < big ∧ (rulesF (ruleB p0.I p1.I p2.I p3.I p4.I ov.B cv.B rd.L po.L ca.L car.I t.I) 0 8 []).length < big := by omega
    have hL2 : 0 < big ∧ (rulesF (ruleB p0.I p1.I p2.I p3.I p4.I ov.B cv.B rd.L po.L ca.L car.I t.I) 0 8 []).length < big := by omega
    have hL3 : (rulesF (ruleB p0.I p1.I p2.I p3.I p4.I ov.B cv.B rd.L po.L ca.L car.I t.I) 0 8 []).length < big ∧ 0 < big := by omega
    have mne : ∀ {l : List (List D)}, l.isEmpty = false → ¬ ((l.length : Nat) : Int) > 0 → False := fun {l} h1 h2 => by
      cases l with
      | nil => cases h1
      | cons a b => simp only [List.length_cons] at h2; omega
    obtain ⟨wH, wS, wN⟩ := pick3 hh
    have yh : (kd.I == 1) = true → evB p0.I p5.I k.I s.I p.I c.I = true → (decide (kd.I = 1) && evB p0.I p5.I k.I s.I p.I c.I) = true := fun h1 h2 => by rw [decide_eq_true (eq_of_beq h1), h2]; rfl
    have nh1 : (kd.I == 1) = false → (decide (kd.I = 1) && evB p0.I p5.I k.I s.I p.I c.I) = false := fun h1 => by rw [decide_eq_false (ne_of_beq_false h1)]; rfl
    have nh2 : evB p0.I p5.I k.I s.I p.I c.I = false → (decide (kd.I = 1) && evB p0.I p5.I k.I s.I p.I c.I) = false := fun h1 => by rw [h1, Bool.and_false]
    have ys : (kd.I == 3) = true → validB p5.I car.I t.I = true → (rulesF (ruleB p0.I p1.I p2.I p3.I p4.I ov.B cv.B rd.L po.L ca.L car.I t.I) 0 8 []).isEmpty = true → (decide (kd.I = 3) && (validB p5.I car.I t.I && (rulesF (ruleB p0.I p1.I p2.I p3.I p4.I ov.B cv.B rd.L po.L ca.L car.I t.I) 0 8 []).isEmpty)) = true := fun h1 h2 h3 => by rw [decide_eq_true (eq_of_beq h1), h2, h3]; rfl
    have ns1 : (kd.I == 3) = false → (decide (kd.I = 3) && (validB p5.I car.I t.I && (rulesF (ruleB p0.I p1.I p2.I p3.I p4.I ov.B cv.B rd.L po.L ca.L car.I t.I) 0 8 []).isEmpty)) = false := fun h1 => by rw [decide_eq_false (ne_of_beq_false h1)]; rfl
    have ns2 : validB p5.I car.I t.I = false → (decide (kd.I = 3) && (validB p5.I car.I t.I && (rulesF (ruleB p0.I p1.I p2.I p3.I p4.I ov.B cv.B rd.L po.L ca.L car.I t.I) 0 8 []).isEmpty)) = false := fun h1 => by rw [h1, Bool.false_and, Bool.and_false]
    have ns3 : (rulesF (ruleB p0.I p1.I p2.I p3.I p4.I ov.B cv.B rd.L po.L ca.L car.I t.I) 0 8 []).isEmpty = false → (decide (kd.I = 3) && (validB p5.I car.I t.I && (rulesF (ruleB p0.I p1.I p2.I p3.I p4.I ov.B cv.B rd.L po.L ca.L car.I t.I) 0 8 []).isEmpty)) = false := fun h1 => by rw [h1, Bool.and_false, Bool.and_false]
    have ns4 : (kd.I == 1) = true → (decide (kd.I = 3) && (validB p5.I car.I t.I && (rulesF (ruleB p0.I p1.I p2.I p3.I p4.I ov.B cv.B rd.L po.L ca.L car.I t.I) 0 8 []).isEmpty)) = false := fun h1 => ns1 (by rw [eq_of_beq h1]; rfl)
    have ns5 : (kd.I == 2) = true → (decide (kd.I = 3) && (validB p5.I car.I t.I && (rulesF (ruleB p0.I p1.I p2.I p3.I p4.I ov.B cv.B rd.L po.L ca.L car.I t.I) 0 8 []).isEmpty)) = false := fun h1 => ns1 (by rw [eq_of_beq h1]; rfl)
    exact go_if (fun c1 => go_if (fun c2 => go_ite (fun c3 => go_yes hG (go_ite (fun c4 => go_yes hPl (go_not (fun c5 => absurd (c4.symm.trans c5) (by decide)) fun c5 =>
              go_yes ⟨by trivial, (hE c4).1, (hE c4).2⟩ (go_leaf (wH (yh c3 c4)).symm))) fun c4 =>
            go_yes hPl (go_not (fun c6 => go_leaf (wN (nh2 c4) (ns4 c3)).symm) fun c6 =>
              absurd (c4.symm.trans c6) (by decide)))) fun c3 =>
          go_ite (fun c7 => go_yes hG (go_ite (fun c8 => go_ite (fun c9 => go_not (fun c10 => False.elim (by have := hv1 c8; have := c1; have := c2; have := (of_decide_eq_false c10); omega)) fun c10 =>
                  go_not (fun c11 => False.elim (by have := hv1 c8; have := c1; have := c2; have := (of_decide_eq_true c10); have := (of_decide_eq_false c11); omega)) fun c11 =>
                    go_dec (by have := c1; have := c2; have := (of_decide_eq_true c10); have := (of_decide_eq_true c11); omega) (go_yes (hMay c1 c2 (of_decide_eq_true c11)) (go_ite (fun c12 => go_yes (by simp only [List.length_nil, List.take_length, hm c1]; first | exact hL1 | exact hL2 | exact hL3 | exact hL4) (go_leaf (wN (nh1 c3) (ns5 c7)).symm)) fun c12 =>
                      False.elim (by have h := c12; rw [hm c1, c9] at h; cases h)))) fun c9 =>
                go_not (fun c13 => False.elim (by have := hv1 c8; have := c1; have := c2; have := (of_decide_eq_false c13); omega)) fun c13 =>
                  go_not (fun c14 => False.elim (by have := hv1 c8; have := c1; have := c2; have := (of_decide_eq_true c13); have := (of_decide_eq_false c14); omega)) fun c14 =>
                    go_dec (by have := c1; have := c2; have := (of_decide_eq_true c13); have := (of_decide_eq_true c14); omega) (go_yes (hMay c1 c2 (of_decide_eq_true c14)) (go_ite (fun c15 => False.elim (by have h := c15; rw [hm c1, c9] at h; cases h)) fun c15 =>
                      go_dec (by have := c1; have := c2; have := (of_decide_eq_true c13); have := (of_decide_eq_true c14); omega) (go_dec (by have := c1; have := c2; have := (of_decide_eq_true c13); have := (of_decide_eq_true c14); omega) (go_yes (by simp only [List.length_nil, List.take_length, hm c1]; first | exact hL1 | exact hL2 | exact hL3 | exact hL4) ((by rw [hm c1, sameI_self]; exact go_leaf (wN (nh1 c3) (ns5 c7)).symm))))))) fun c8 =>
              go_not (fun c16 => go_leaf (wN (nh1 c3) (ns5 c7)).symm) fun c16 =>
                go_not (fun c17 => go_leaf (wN (nh1 c3) (ns5 c7)).symm) fun c17 =>
                  False.elim (by have := hv0 c8; have := c1; have := c2; have := (of_decide_eq_true c16); have := (of_decide_eq_true c17); omega))) fun c7 =>
            go_ite (fun c18 => go_yes hG (go_ite (fun c19 => go_ite (fun c20 => go_not (fun c21 => False.elim (by have := hv1 c19; have := c1; have := c2; have := (of_decide_eq_false c21); omega)) fun c21 =>
                    go_not (fun c22 => False.elim (by have := hv1 c19; have := c1; have := c2; have := (of_decide_eq_true c21); have := (of_decide_eq_false c22); omega)) fun c22 =>
                      go_dec (by have := c1; have := c2; have := (of_decide_eq_true c21); have := (of_decide_eq_true c22); omega) (go_yes (hMay c1 c2 (of_decide_eq_true c22)) (go_ite (fun c23 => go_dec (by have := c1; have := c2; have := (of_decide_eq_true c21); have := (of_decide_eq_true c22); omega) (go_dec (by have := c1; have := c2; have := (of_decide_eq_true c21); have := (of_decide_eq_true c22); omega) ((by rw [upAll, (hst (hv1 c19) c20).2]; exact go_leaf (wS (nh1 c3) (ys c18 c19 c20)).symm)))) fun c23 =>
                        False.elim (by have h := c23; rw [hm c1, c20] at h; cases h)))) fun c20 =>
                  go_not (fun c24 => False.elim (by have := hv1 c19; have := c1; have := c2; have := (of_decide_eq_false c24); omega)) fun c24 =>
                    go_not (fun c25 => False.elim (by have := hv1 c19; have := c1; have := c2; have := (of_decide_eq_true c24); have := (of_decide_eq_false c25); omega)) fun c25 =>
                      go_dec (by have := c1; have := c2; have := (of_decide_eq_true c24); have := (of_decide_eq_true c25); omega) (go_yes (hMay c1 c2 (of_decide_eq_true c25)) (go_ite (fun c26 => False.elim (by have h := c26; rw [hm c1, c20] at h; cases h)) fun c26 =>
                        go_if (fun c27 => go_leaf (wN (nh1 c3) (ns3 c20)).symm) fun c27 =>
                          False.elim (mne c26 c27)))) fun c19 =>
                go_not (fun c28 => go_leaf (wN (nh1 c3) (ns2 c19)).symm) fun c28 =>
                  go_not (fun c29 => go_leaf (wN (nh1 c3) (ns2 c19)).symm) fun c29 =>
                    False.elim (by have := hv0 c19; have := c1; have := c2; have := (of_decide_eq_true c28); have := (of_decide_eq_true c29); omega))) fun c18 =>
              go_ite (fun c30 => go_dec (by have := c1; have := c2; omega) (go_dec (by have := c1; have := c2; omega) (go_dec (by have := c1; have := c2; omega) (go_yes hCar (go_if (fun c31 => go_not (fun c32 => False.elim (by have := c31; have := c1; have := c2; have := (of_decide_eq_false c32); omega)) fun c32 =>
                    go_dec (by have := c1; have := c2; have := (of_decide_eq_true c32); omega) (go_dec (by have := c1; have := c2; have := (of_decide_eq_true c32); omega) ((by simp only [ix, bx, beq_self_eq_true, Bool.and_self]; exact go_leaf (wN (nh1 c3) (ns1 c18)).symm)))) fun c31 =>
                  go_not (fun c33 => go_leaf (wN (nh1 c3) (ns1 c18)).symm) fun c33 =>
                    False.elim (by have := c31; have := c1; have := c2; have := (of_decide_eq_true c33); omega)))))) fun c30 =>
                go_leaf (wN (nh1 c3) (ns1 c18)).symm) fun c2 =>
        go_ite (fun c34 => go_yes hG (go_ite (fun c35 => go_yes hPl (go_not (fun c36 => absurd (c35.symm.trans c36) (by decide)) fun c36 =>
              go_yes ⟨by trivial, (hE c35).1, (hE c35).2⟩ (go_leaf (wH (yh c34 c35)).symm))) fun c35 =>
            go_yes hPl (go_not (fun c37 => go_leaf (wN (nh2 c35) (ns4 c34)).symm) fun c37 =>
              absurd (c35.symm.trans c37) (by decide)))) fun c34 =>
          go_ite (fun c38 => go_yes hG (go_ite (fun c39 => False.elim (by have := hv1 c39; have := c1; have := c2; omega)) fun c39 =>
              go_not (fun c40 => go_leaf (wN (nh1 c34) (ns5 c38)).symm) fun c40 =>
                go_leaf (wN (nh1 c34) (ns5 c38)).symm)) fun c38 =>
            go_ite (fun c41 => go_yes hG (go_ite (fun c42 => False.elim (by have := hv1 c42; have := c1; have := c2; omega)) fun c42 =>
                go_not (fun c43 => go_leaf (wN (nh1 c34) (ns2 c42)).symm) fun c43 =>
                  go_leaf (wN (nh1 c34) (ns2 c42)).symm)) fun c41 =>
              go_ite (fun c44 => go_dec (by have := c1; have := c2; omega) (go_dec (by have := c1; have := c2; omega) (go_dec (by have := c1; have := c2; omega) (go_yes hCar (go_if (fun c45 => go_not (fun c46 => False.elim (by have := c45; have := c1; have := c2; have := (of_decide_eq_false c46); omega)) fun c46 =>
                    go_dec (by have := c1; have := c2; have := (of_decide_eq_true c46); omega) (go_dec (by have := c1; have := c2; have := (of_decide_eq_true c46); omega) ((by simp only [ix, bx, beq_self_eq_true, Bool.and_self]; exact go_leaf (wN (nh1 c34) (ns1 c41)).symm)))) fun c45 =>
                  go_not (fun c47 => go_leaf (wN (nh1 c34) (ns1 c41)).symm) fun c47 =>
                    False.elim (by have := c45; have := c1; have := c2; have := (of_decide_eq_true c47); omega)))))) fun c44 =>
                go_leaf (wN (nh1 c34) (ns1 c41)).symm) fun c1 =>
      go_if (fun c48 => go_ite (fun c49 => go_yes hG (go_ite (fun c50 => go_yes hPl (go_not (fun c51 => absurd (c50.symm.trans c51) (by decide)) fun c51 =>
              go_yes ⟨by trivial, (hE c50).1, (hE c50).2⟩ (go_leaf (wH (yh c49 c50)).symm))) fun c50 =>
            go_yes hPl (go_not (fun c52 => go_leaf (wN (nh2 c50) (ns4 c49)).symm) fun c52 =>
              absurd (c50.symm.trans c52) (by decide)))) fun c49 =>
          go_ite (fun c53 => go_yes hG (go_ite (fun c54 => False.elim (by have := hv1 c54; have := c1; have := c48; omega)) fun c54 =>
              go_leaf (wN (nh1 c49) (ns5 c53)).symm)) fun c53 =>
            go_ite (fun c55 => go_yes hG (go_ite (fun c56 => False.elim (by have := hv1 c56; have := c1; have := c48; omega)) fun c56 =>
                go_leaf (wN (nh1 c49) (ns2 c56)).symm)) fun c55 =>
              go_ite (fun c57 => go_dec (by have := c1; have := c48; omega) (go_dec (by have := c1; have := c48; omega) (go_dec (by have := c1; have := c48; omega) (go_yes hCar (go_if (fun c58 => False.elim (by have := c58; have := c1; have := c48; omega)) fun c58 =>
                  go_leaf (wN (nh1 c49) (ns1 c55)).symm))))) fun c57 =>
                go_leaf (wN (nh1 c49) (ns1 c55)).symm) fun c48 =>
        go_ite (fun c59 => go_yes hG (go_ite (fun c60 => go_yes hPl (go_not (fun c61 => absurd (c60.symm.trans c61) (by decide)) fun c61 =>
              go_yes ⟨by trivial, (hE c60).1, (hE c60).2⟩ (go_leaf (wH (yh c59 c60)).symm))) fun c60 =>
            go_yes hPl (go_not (fun c62 => go_leaf (wN (nh2 c60) (ns4 c59)).symm) fun c62 =>
              absurd (c60.symm.trans c62) (by decide)))) fun c59 =>
          go_ite (fun c63 => go_yes hG (go_ite (fun c64 => False.elim (by have := hv1 c64; have := c1; have := c48; omega)) fun c64 =>
              go_leaf (wN (nh1 c59) (ns5 c63)).symm)) fun c63 =>
            go_ite (fun c65 => go_yes hG (go_ite (fun c66 => False.elim (by have := hv1 c66; have := c1; have := c48; omega)) fun c66 =>
                go_leaf (wN (nh1 c59) (ns2 c66)).symm)) fun c65 =>
              go_ite (fun c67 => go_dec (by have := c1; have := c48; omega) (go_dec (by have := c1; have := c48; omega) (go_dec (by have := c1; have := c48; omega) (go_yes hCar (go_if (fun c68 => False.elim (by have := c68; have := c1; have := c48; omega)) fun c68 =>
                  go_leaf (wN (nh1 c59) (ns1 c65)).symm))))) fun c67 =>
                go_leaf (wN (nh1 c59) (ns1 c65)).symm
  · cases hh
theorem ok2037 (n : Nat) : FnOKW C (n + 9) 37 (mkFW s2037 G2037) := by
  refine fn_ofW hC (sp := sp2037) (lp := lp2037) (sw := sw2037) ⟨ok58 (n + 6), ok60 (n + 6), ok41 (n + 6), ok42 (n + 6), trivial⟩ ⟨ok38 (n + 5), ok2059 (n + 7), ok40 (n + 1), ok39 n, trivial⟩ (by kernel_rfl) [] (by kernel_rfl) rfl (fun k hk => by cases hk) fun ds r hh => ?_
  unfold G2037 at hh
  split at hh
  · rename_i kd k s p c car t p0 p1 p2 p3 p4 p5 ov os oh cv cs ch nr np nc q0 q1 q2 q3 q4 q5 ne nd rd po ca ev da
    obtain ⟨hp, hh⟩ := need_some hh
    rw [yes_iff] at hp
    obtain ⟨hne, hG, hos, hcs, ⟨e0, e1, e2, e3, e4, e5⟩, hnd, hda, hcan, hun, hsame, hevl⟩ := hp
    have hG : okG p0.I p1.I p2.I p3.I p4.I p5.I nr.I np.I nc.I rd.L po.L ca.L := hG
    have hos : tOK os.I := hos
    have hcs : tOK cs.I := hcs
    have hda : da.L = ca.L := hda
    have hcan : ∀ j, j < ca.L.length → ca.L.getD j [] = canC (ca.L.getD j []) := hcan
    have hun : ∀ j, j < ca.L.length → bx (ca.L.getD j []) 0 = false → ix (ca.L.getD j []) 2 = -1 ∧ bx (ca.L.getD j []) 3 = false ∧ bx (ca.L.getD j []) 4 = false := hun
    have hG0 := hG
    obtain ⟨hPl, ⟨hr, hpo, hc⟩, ⟨l1, l2, l3⟩, hlo1, hlo2, hoc⟩ := hG0
    have hb := big_eq
    have hPl' := hPl
    unfold okPl at hPl'
    have hm : 0 ≤ car.I → mayF p0.I p1.I p2.I p3.I p4.I p5.I car.I t.I ev.L ca.L = rulesF (ruleB p0.I p1.I p2.I p3.I p4.I ov.B cv.B rd.L po.L ca.L car.I t.I) 0 8 [] := fun h => rules_same hsame l1 l2 l3 h
    refine (t2037 kd k s p c car t p0 p1 p2 p3 p4 p5 ov os oh cv cs ch nr np nc q0 q1 q2 q3 q4 q5 ne nd rd po ca ev da).trans ?_
    simp only [e0, e1, e2, e3, e4, e5, hr, hpo, hc, hnd, hda, hne, Int.toNat_natCast, List.take_length] at hh ⊢
    rw [hr, hpo, hc] at hG
    have hG : _ ∧ _ ∧ _ := ⟨hG, hos, hcs⟩
    have upAll : updC (ca.L.getD car.I.toNat []) [.b true, .i t.I, .i (-1), .b false, .b false] 0 0 (List.length [K.bool, K.int .i64, K.int .i64, K.bool, K.bool]) = [.b true, .i t.I, .i (-1), .b false, .b false] := by simp [updC]
    have hst := fun (h : (0 ≤ car.I ∧ car.I < p5.I) ∧ 0 ≤ t.I ∧ t.I ≤ 100000) h' => start_same (p0 := p0.I) (p1 := p1.I) (p2 := p2.I) (p3 := p3.I) (p4 := p4.I) (ov := ov.B) (cv := cv.B) (rd := rd.L) (po := po.L) (t := t.I) hcan hun h.1.1 (by omega) h'
    have hE : evB p0.I p5.I k.I s.I p.I c.I = true → 0 ≤ c.I ∧ c.I < (ca.L.length : Int) := fun h => by have := of_decide_eq_true h; omega
    have hv1 := @validB_yes p5.I car.I t.I
    have hv0 := @validB_no p5.I car.I t.I
    have hMay : 0 ≤ car.I → t.I ≥ 0 → t.I ≤ 100000 → okPl p0.I p1.I p2.I p3.I p4.I p5.I ∧ p5.I = (ca.L.length : Int) ∧ List.length ev.L < big ∧ okCa ca.L ∧ tOK t.I ∧ 0 ≤ car.I := fun h1 h2 h3 => ⟨hPl, l3.symm, by have : ev.L.length ≤ 1000 := hevl; omega, hoc, ⟨h2, h3⟩, h1⟩
    have hCar : 1 ≤ p5.I ∧ p5.I ≤ 200 ∧ (ca.L.length : Int) = p5.I := ⟨by omega, by omega, l3⟩
    have hrl := rulesF_len (ruleB p0.I p1.I p2.I p3.I p4.I ov.B cv.B rd.L po.L ca.L car.I t.I) 8 0 []
    simp only [List.length_nil] at hrl
    have hL1 : 0 < big ∧ 0 < big := by omega
    have hL4 : (rulesF (ruleB p0.I p1.I p2.I p3.I p4.I ov.B cv.B rd.L po.L ca.L car.I t.I) 0 8 []).length < big ∧ (rulesF (ruleB p0.I p1.I p2.I p3.I p4.I ov.B cv.B rd.L po.L ca.L car.I t.I) 0 8 []).length < big := by omega
    have hL2 : 0 < big ∧ (rulesF (ruleB p0.I p1.I p2.I p3.I p4.I ov.B cv.B rd.L po.L ca.L car.I t.I) 0 8 []).length < big := by omega
    have hL3 : (rulesF (ruleB p0.I p1.I p2.I p3.I p4.I ov.B cv.B rd.L po.L ca.L car.I t.I) 0 8 []).length < big ∧ 0 < big := by omega
    have mne : ∀ {l : List (List D)}, l.isEmpty = false → ¬ ((l.length : Nat) : Int) > 0 → False := fun {l} h1 h2 => by
      cases l with
      | nil => cases h1
      | cons a b => simp only [List.length_cons] at h2; omega
    obtain ⟨wH, wS, wN⟩ := pick3 hh
    have yh : (kd.I == 1) = true → evB p0.I p5.I k.I s.I p.I c.I = true → (decide (kd.I = 1) && evB p0.I p5.I k.I s.I p.I c.I) = true := fun h1 h2 => by rw [decide_eq_true (eq_of_beq h1), h2]; rfl
    have nh1 : (kd.I == 1) = false → (decide (kd.I = 1) && evB p0.I p5.I k.I s.I p.I c.I) = false := fun h1 => by rw [decide_eq_false (ne_of_beq_false h1)]; rfl
    have nh2 : evB p0.I p5.I k.I s.I p.I c.I = false → (decide (kd.I = 1) && evB p0.I p5.I k.I s.I p.I c.I) = false := fun h1 => by rw [h1, Bool.and_false]
    have ys : (kd.I == 3) = true → validB p5.I car.I t.I = true → (rulesF (ruleB p0.I p1.I p2.I p3.I p4.I ov.B cv.B rd.L po.L ca.L car.I t.I) 0 8 []).isEmpty = true → (decide (kd.I = 3) && (validB p5.I car.I t.I && (rulesF (ruleB p0.I p1.I p2.I p3.I p4.I ov.B cv.B rd.L po.L ca.L car.I t.I) 0 8 []).isEmpty)) = true := fun h1 h2 h3 => by rw [decide_eq_true (eq_of_beq h1), h2, h3]; rfl
    have ns1 : (kd.I == 3) = false → (decide (kd.I = 3) && (validB p5.I car.I t.I && (rulesF (ruleB p0.I p1.I p2.I p3.I p4.I ov.B cv.B rd.L po.L ca.L car.I t.I) 0 8 []).isEmpty)) = false := fun h1 => by rw [decide_eq_false (ne_of_beq_false h1)]; rfl
    have ns2 : validB p5.I car.I t.I = false → (decide (kd.I = 3) && (validB p5.I car.I t.I && (rulesF (ruleB p0.I p1.I p2.I p3.I p4.I ov.B cv.B rd.L po.L ca.L car.I t.I) 0 8 []).isEmpty)) = false := fun h1 => by rw [h1, Bool.false_and, Bool.and_false]
    have ns3 : (rulesF (ruleB p0.I p1.I p2.I p3.I p4.I ov.B cv.B rd.L po.L ca.L car.I t.I) 0 8 []).isEmpty = false → (decide (kd.I = 3) && (validB p5.I car.I t.I && (rulesF (ruleB p0.I p1.I p2.I p3.I p4.I ov.B cv.B rd.L po.L ca.L car.I t.I) 0 8 []).isEmpty)) = false := fun h1 => by rw [h1, Bool.and_false, Bool.and_false]
    have ns4 : (kd.I == 1) = true → (decide (kd.I = 3) && (validB p5.I car.I t.I && (rulesF (ruleB p0.I p1.I p2.I p3.I p4.I ov.B cv.B rd.L po.L ca.L car.I t.I) 0 8 []).isEmpty)) = false := fun h1 => ns1 (by rw [eq_of_beq h1]; rfl)
    have ns5 : (kd.I == 2) = true → (decide (kd.I = 3) && (validB p5.I car.I t.I && (rulesF (ruleB p0.I p1.I p2.I p3.I p4.I ov.B cv.B rd.L po.L ca.L car.I t.I) 0 8 []).isEmpty)) = false := fun h1 => ns1 (by rw [eq_of_beq h1]; rfl)
    exact go_if (fun c1 => go_if (fun c2 => go_ite (fun c3 => go_yes hG (go_ite (fun c4 => go_yes hPl (go_not (fun c5 => absurd (c4.symm.trans c5) (by decide)) fun c5 =>
              go_yes ⟨by trivial, by trivial, by omega, (hE c4).1, (hE c4).2⟩ (go_leaf (wH (yh c3 c4)).symm))) fun c4 =>
            go_yes hPl (go_not (fun c6 => go_leaf (wN (nh2 c4) (ns4 c3)).symm) fun c6 =>
              absurd (c4.symm.trans c6) (by decide)))) fun c3 =>
          go_ite (fun c7 => go_yes hG (go_ite (fun c8 => go_ite (fun c9 => go_not (fun c10 => False.elim (by have := hv1 c8; have := c1; have := c2; have := (of_decide_eq_false c10); omega)) fun c10 =>
                  go_not (fun c11 => False.elim (by have := hv1 c8; have := c1; have := c2; have := (of_decide_eq_true c10); have := (of_decide_eq_false c11); omega)) fun c11 =>
                    go_dec (by have := c1; have := c2; have := (of_decide_eq_true c10); have := (of_decide_eq_true c11); omega) (go_dec (by have := c1; have := c2; have := (of_decide_eq_true c10); have := (of_decide_eq_true c11); omega) (go_yes (hMay c1 c2 (of_decide_eq_true c11)) (go_ite (fun c12 => go_yes (by simp only [List.length_nil, List.take_length, hm c1]; first | exact hL1 | exact hL2 | exact hL3 | exact hL4) (go_leaf (wN (nh1 c3) (ns5 c7)).symm)) fun c12 =>
                      False.elim (by have h := c12; rw [hm c1, c9] at h; cases h))))) fun c9 =>
                go_not (fun c13 => False.elim (by have := hv1 c8; have := c1; have := c2; have := (of_decide_eq_false c13); omega)) fun c13 =>
                  go_not (fun c14 => False.elim (by have := hv1 c8; have := c1; have := c2; have := (of_decide_eq_true c13); have := (of_decide_eq_false c14); omega)) fun c14 =>
                    go_dec (by have := c1; have := c2; have := (of_decide_eq_true c13); have := (of_decide_eq_true c14); omega) (go_dec (by have := c1; have := c2; have := (of_decide_eq_true c13); have := (of_decide_eq_true c14); omega) (go_yes (hMay c1 c2 (of_decide_eq_true c14)) (go_ite (fun c15 => False.elim (by have h := c15; rw [hm c1, c9] at h; cases h)) fun c15 =>
                      go_dec (by have := c1; have := c2; have := (of_decide_eq_true c13); have := (of_decide_eq_true c14); omega) (go_dec (by have := c1; have := c2; have := (of_decide_eq_true c13); have := (of_decide_eq_true c14); omega) (go_yes (by simp only [List.length_nil, List.take_length, hm c1]; first | exact hL1 | exact hL2 | exact hL3 | exact hL4) ((by rw [hm c1, sameI_self]; exact go_leaf (wN (nh1 c3) (ns5 c7)).symm)))))))) fun c8 =>
              go_not (fun c16 => go_leaf (wN (nh1 c3) (ns5 c7)).symm) fun c16 =>
                go_not (fun c17 => go_leaf (wN (nh1 c3) (ns5 c7)).symm) fun c17 =>
                  False.elim (by have := hv0 c8; have := c1; have := c2; have := (of_decide_eq_true c16); have := (of_decide_eq_true c17); omega))) fun c7 =>
            go_ite (fun c18 => go_yes hG (go_ite (fun c19 => go_ite (fun c20 => go_not (fun c21 => False.elim (by have := hv1 c19; have := c1; have := c2; have := (of_decide_eq_false c21); omega)) fun c21 =>
                    go_not (fun c22 => False.elim (by have := hv1 c19; have := c1; have := c2; have := (of_decide_eq_true c21); have := (of_decide_eq_false c22); omega)) fun c22 =>
                      go_dec (by have := c1; have := c2; have := (of_decide_eq_true c21); have := (of_decide_eq_true c22); omega) (go_dec (by have := c1; have := c2; have := (of_decide_eq_true c21); have := (of_decide_eq_true c22); omega) (go_yes (hMay c1 c2 (of_decide_eq_true c22)) (go_ite (fun c23 => go_dec (by have := c1; have := c2; have := (of_decide_eq_true c21); have := (of_decide_eq_true c22); omega) (go_dec (by have := c1; have := c2; have := (of_decide_eq_true c21); have := (of_decide_eq_true c22); omega) ((by rw [upAll, (hst (hv1 c19) c20).2]; exact go_leaf (wS (nh1 c3) (ys c18 c19 c20)).symm)))) fun c23 =>
                        False.elim (by have h := c23; rw [hm c1, c20] at h; cases h))))) fun c20 =>
                  go_not (fun c24 => False.elim (by have := hv1 c19; have := c1; have := c2; have := (of_decide_eq_false c24); omega)) fun c24 =>
                    go_not (fun c25 => False.elim (by have := hv1 c19; have := c1; have := c2; have := (of_decide_eq_true c24); have := (of_decide_eq_false c25); omega)) fun c25 =>
                      go_dec (by have := c1; have := c2; have := (of_decide_eq_true c24); have := (of_decide_eq_true c25); omega) (go_dec (by have := c1; have := c2; have := (of_decide_eq_true c24); have := (of_decide_eq_true c25); omega) (go_yes (hMay c1 c2 (of_decide_eq_true c25)) (go_ite (fun c26 => False.elim (by have h := c26; rw [hm c1, c20] at h; cases h)) fun c26 =>
                        go_if (fun c27 => go_leaf (wN (nh1 c3) (ns3 c20)).symm) fun c27 =>
                          False.elim (mne c26 c27))))) fun c19 =>
                go_not (fun c28 => go_leaf (wN (nh1 c3) (ns2 c19)).symm) fun c28 =>
                  go_not (fun c29 => go_leaf (wN (nh1 c3) (ns2 c19)).symm) fun c29 =>
                    False.elim (by have := hv0 c19; have := c1; have := c2; have := (of_decide_eq_true c28); have := (of_decide_eq_true c29); omega))) fun c18 =>
              go_ite (fun c30 => go_dec (by have := c1; have := c2; omega) (go_dec (by have := c1; have := c2; omega) (go_dec (by have := c1; have := c2; omega) (go_yes hCar (go_if (fun c31 => go_not (fun c32 => False.elim (by have := c31; have := c1; have := c2; have := (of_decide_eq_false c32); omega)) fun c32 =>
                    go_dec (by have := c1; have := c2; have := (of_decide_eq_true c32); omega) (go_dec (by have := c1; have := c2; have := (of_decide_eq_true c32); omega) ((by simp only [ix, bx, beq_self_eq_true, Bool.and_self]; exact go_leaf (wN (nh1 c3) (ns1 c18)).symm)))) fun c31 =>
                  go_not (fun c33 => go_leaf (wN (nh1 c3) (ns1 c18)).symm) fun c33 =>
                    False.elim (by have := c31; have := c1; have := c2; have := (of_decide_eq_true c33); omega)))))) fun c30 =>
                go_leaf (wN (nh1 c3) (ns1 c18)).symm) fun c2 =>
        go_ite (fun c34 => go_yes hG (go_ite (fun c35 => go_yes hPl (go_not (fun c36 => absurd (c35.symm.trans c36) (by decide)) fun c36 =>
              go_yes ⟨by trivial, by trivial, by omega, (hE c35).1, (hE c35).2⟩ (go_leaf (wH (yh c34 c35)).symm))) fun c35 =>
            go_yes hPl (go_not (fun c37 => go_leaf (wN (nh2 c35) (ns4 c34)).symm) fun c37 =>
              absurd (c35.symm.trans c37) (by decide)))) fun c34 =>
          go_ite (fun c38 => go_yes hG (go_ite (fun c39 => False.elim (by have := hv1 c39; have := c1; have := c2; omega)) fun c39 =>
              go_not (fun c40 => go_leaf (wN (nh1 c34) (ns5 c38)).symm) fun c40 =>
                go_leaf (wN (nh1 c34) (ns5 c38)).symm)) fun c38 =>
            go_ite (fun c41 => go_yes hG (go_ite (fun c42 => False.elim (by have := hv1 c42; have := c1; have := c2; omega)) fun c42 =>
                go_not (fun c43 => go_leaf (wN (nh1 c34) (ns2 c42)).symm) fun c43 =>
                  go_leaf (wN (nh1 c34) (ns2 c42)).symm)) fun c41 =>
              go_ite (fun c44 => go_dec (by have := c1; have := c2; omega) (go_dec (by have := c1; have := c2; omega) (go_dec (by have := c1; have := c2; omega) (go_yes hCar (go_if (fun c45 => go_not (fun c46 => False.elim (by have := c45; have := c1; have := c2; have := (of_decide_eq_false c46); omega)) fun c46 =>
                    go_dec (by have := c1; have := c2; have := (of_decide_eq_true c46); omega) (go_dec (by have := c1; have := c2; have := (of_decide_eq_true c46); omega) ((by simp only [ix, bx, beq_self_eq_true, Bool.and_self]; exact go_leaf (wN (nh1 c34) (ns1 c41)).symm)))) fun c45 =>
                  go_not (fun c47 => go_leaf (wN (nh1 c34) (ns1 c41)).symm) fun c47 =>
                    False.elim (by have := c45; have := c1; have := c2; have := (of_decide_eq_true c47); omega)))))) fun c44 =>
                go_leaf (wN (nh1 c34) (ns1 c41)).symm) fun c1 =>
      go_if (fun c48 => go_ite (fun c49 => go_yes hG (go_ite (fun c50 => go_yes hPl (go_not (fun c51 => absurd (c50.symm.trans c51) (by decide)) fun c51 =>
              go_yes ⟨by trivial, by trivial, by omega, (hE c50).1, (hE c50).2⟩ (go_leaf (wH (yh c49 c50)).symm))) fun c50 =>
            go_yes hPl (go_not (fun c52 => go_leaf (wN (nh2 c50) (ns4 c49)).symm) fun c52 =>
              absurd (c50.symm.trans c52) (by decide)))) fun c49 =>
          go_ite (fun c53 => go_yes hG (go_ite (fun c54 => False.elim (by have := hv1 c54; have := c1; have := c48; omega)) fun c54 =>
              go_leaf (wN (nh1 c49) (ns5 c53)).symm)) fun c53 =>
            go_ite (fun c55 => go_yes hG (go_ite (fun c56 => False.elim (by have := hv1 c56; have := c1; have := c48; omega)) fun c56 =>
                go_leaf (wN (nh1 c49) (ns2 c56)).symm)) fun c55 =>
              go_ite (fun c57 => go_dec (by have := c1; have := c48; omega) (go_dec (by have := c1; have := c48; omega) (go_dec (by have := c1; have := c48; omega) (go_yes hCar (go_if (fun c58 => False.elim (by have := c58; have := c1; have := c48; omega)) fun c58 =>
                  go_leaf (wN (nh1 c49) (ns1 c55)).symm))))) fun c57 =>
                go_leaf (wN (nh1 c49) (ns1 c55)).symm) fun c48 =>
        go_ite (fun c59 => go_yes hG (go_ite (fun c60 => go_yes hPl (go_not (fun c61 => absurd (c60.symm.trans c61) (by decide)) fun c61 =>
              go_yes ⟨by trivial, by trivial, by omega, (hE c60).1, (hE c60).2⟩ (go_leaf (wH (yh c59 c60)).symm))) fun c60 =>
            go_yes hPl (go_not (fun c62 => go_leaf (wN (nh2 c60) (ns4 c59)).symm) fun c62 =>
              absurd (c60.symm.trans c62) (by decide)))) fun c59 =>
          go_ite (fun c63 => go_yes hG (go_ite (fun c64 => False.elim (by have := hv1 c64; have := c1; have := c48; omega)) fun c64 =>
              go_leaf (wN (nh1 c59) (ns5 c63)).symm)) fun c63 =>
            go_ite (fun c65 => go_yes hG (go_ite (fun c66 => False.elim (by have := hv1 c66; have := c1; have := c48; omega)) fun c66 =>
                go_leaf (wN (nh1 c59) (ns2 c66)).symm)) fun c65 =>
              go_ite (fun c67 => go_dec (by have := c1; have := c48; omega) (go_dec (by have := c1; have := c48; omega) (go_dec (by have := c1; have := c48; omega) (go_yes hCar (go_if (fun c68 => False.elim (by have := c68; have := c1; have := c48; omega)) fun c68 =>
                  go_leaf (wN (nh1 c59) (ns1 c65)).symm))))) fun c67 =>
                go_leaf (wN (nh1 c59) (ns1 c65)).symm
  · cases hh
end Go.Proofs.Ytgmefblkmidglaa
namespace Go.Proofs.Ytgmefblkmidglaa
open Go.Lite
def s11 : Sig := ⟨[.agg [.k (.int .i64), .k (.int .i64), .k (.int .i64), .k (.int .i64), .k (.int .i64), .k (.int .i64)], .k (.ro [.int .i64, .int .i64, .int .i64, .int .i64, .int .i64, .int .i64, .int .i64])], [(.k .bool, [])]⟩
def l11_10 : LSig := mkLS [1, 5, 7, 8] [(53, [(1, .k (.ro [.int .i64, .int .i64, .int .i64, .int .i64, .int .i64, .int .i64, .int .i64])), (5, .ptr 0 15 0 0), (7, .ptr 1 8 0 0), (8, .k (.int .i64))], [.box [.k (.int .i64), .k (.int .i64), .k (.int .i64), .k (.int .i64), .k (.int .i64), .k (.int .i64), .k .bool, .k (.int .i64), .k .bool, .k .bool, .k (.int .i64), .k .bool, .sl 2 3, .sl 3 3, .sl 4 5], .box [.k (.int .i64), .k (.int .i64), .k (.int .i64), .k (.int .i64), .k (.int .i64), .k (.int .i64), .nils, .sl 5 5], .row [.bool, .int .i64, .bool], .row [.bool, .int .i64, .bool], .row [.bool, .int .i64, .int .i64, .bool, .bool], .row [.bool, .int .i64, .int .i64, .bool, .bool]]), (53, [(1, .k (.ro [.int .i64, .int .i64, .int .i64, .int .i64, .int .i64, .int .i64, .int .i64])), (5, .ptr 0 15 0 0), (7, .ptr 1 8 0 0), (8, .k (.int .i64))], [.box [.k (.int .i64), .k (.int .i64), .k (.int .i64), .k (.int .i64), .k (.int .i64), .k (.int .i64), .k .bool, .k (.int .i64), .k .bool, .k .bool, .k (.int .i64), .k .bool, .sl 2 3, .sl 3 3, .sl 4 5], .box [.k (.int .i64), .k (.int .i64), .k (.int .i64), .k (.int .i64), .k (.int .i64), .k (.int .i64), .sl 5 4, .sl 6 5], .row [.bool, .int .i64, .bool], .row [.bool, .int .i64, .bool], .row [.bool, .int .i64, .int .i64, .bool, .bool], .row [.int .i64, .int .i64, .int .i64, .int .i64], .row [.bool, .int .i64, .int .i64, .bool, .bool]])] [(.ret, [4], [(53, [(4, .k .bool)], [])]), (.exit 0, [], [(53, [], [])])]
end Go.Proofs.Ytgmefblkmidglaa
set_option linter.unusedVariables false
namespace Go.Proofs.Ytgmefblkmidglaa
open Go.Lite
noncomputable section
def G11_10 (ds : List D) : T (Ex × List D) := match ds with
  | j :: l :: i :: [p0, p1, p2, p3, p4, p5, ov, os, oh, cv, cs, ch, nr, np, nc, q0, q1, q2, q3, q4, q5, nd, rd, po, ca, da] => .need (yes (j.I = 0 ∧ l.L.length ≤ 60 ∧ (0 ≤ i.I ∧ i.I ≤ l.L.length) ∧ InvW p0.I p1.I p2.I p3.I p4.I p5.I q0.I q1.I q2.I q3.I q4.I q5.I nr.I np.I nc.I nd.I (gsOf ov os oh cv cs ch rd po ca) [] da.L)) (.leaf (.exit 0, []))
  | j :: l :: i :: [p0, p1, p2, p3, p4, p5, ov, os, oh, cv, cs, ch, nr, np, nc, q0, q1, q2, q3, q4, q5, ne, nd, rd, po, ca, ev, da] => .need (yes (j.I = 1 ∧ l.L.length ≤ 60 ∧ (0 ≤ i.I ∧ i.I ≤ l.L.length) ∧ ne.I = ev.L.length ∧ ev.L.length ≤ i.I ∧ InvW p0.I p1.I p2.I p3.I p4.I p5.I q0.I q1.I q2.I q3.I q4.I q5.I nr.I np.I nc.I nd.I (gsOf ov os oh cv cs ch rd po ca) ev.L da.L)) (.leaf (.exit 0, []))
  | _ => .fail
end
end Go.Proofs.Ytgmefblkmidglaa
namespace Go.Proofs.Ytgmefblkmidglaa
open Go.Lite
noncomputable def sp11 : SpL := [(34, mkF s34 G34), (35, mkF s35 G35), (36, mkF s36 G36)]
noncomputable def lp11 : LpL := [(10, mkL l11_10 G11_10)]
noncomputable def sw11 : SwL := [(37, mkFWs [(s1037, G1037), (s2037, G2037)])]
noncomputable def tab11 : Tab := mkTab sp11 lp11 sw11
end Go.Proofs.Ytgmefblkmidglaa
namespace Go.Proofs.Ytgmefblkmidglaa
open Go.Lite
set_option linter.unusedVariables false
set_option maxRecDepth 100000
theorem t11 (a b c d e f g : D) : (fnT C tab11 11 s11 [a, b, c, d, e, f, g]).run =
  T.run (T.ite (decide ((g.L.length : Int) > (60 : Int))) (T.leaf [D.b true]) (T.ite (planG a.I b.I c.I d.I e.I f.I) (T.ite (!planG a.I b.I c.I d.I e.I f.I) (T.leaf [D.b false]) (T.need (yes ((1 : Int) ≤ f.I ∧ f.I ≤ (200 : Int))) (T.need (yes ((↑0 : Int) = (0 : Int) ∧ g.L.length ≤ 60 ∧ ((0 : Int) ≤ (0 : Int) ∧ (0 : Int) ≤ (g.L.length : Int)) ∧ InvW a.I b.I c.I d.I e.I f.I a.I b.I c.I d.I e.I f.I (a.I.toNat : Int) (a.I.toNat : Int) (f.I.toNat : Int) (f.I.toNat : Int) (gsOf (D.b false) (D.i 0) (D.b false) (D.b false) (D.i 0) (D.b false) (D.l (List.replicate a.I.toNat lo0)) (D.l (List.replicate a.I.toNat lo0)) (D.l (List.replicate f.I.toNat ca1))) [] (List.replicate f.I.toNat ca1))) (T.leaf [D.b true])))) (T.ite (!planG a.I b.I c.I d.I e.I f.I) (T.leaf [D.b true]) (T.leaf [D.b false])))) := by kernel_rfl
theorem t11_10_0 (a b c d e f g h i j k l m n o p q r s t u v w x y z z26 z27 : D) : (roundT C tab11 11 (loopOf C.P 11 10) l11_10 [.i 0, a, b, c, d, e, f, g, h, i, j, k, l, m, n, o, p, q, r, s, t, u, v, w, x, y, z, z26, z27]).run =
  T.run (T.ite (decide (b.I < (a.L.length : Int))) (T.need (decide ((0 : Int) ≤ b.I ∧ b.I < (a.L.length : Int))) (T.need (yes (InvW c.I d.I e.I f.I g.I h.I r.I s.I t.I u.I v.I w.I (o.I.toNat : Int) (p.I.toNat : Int) (q.I.toNat : Int) (x.I.toNat : Int) (gsOf (D.b i.B) (D.i j.I) (D.b k.B) (D.b l.B) (D.i m.I) (D.b n.B) (D.l y.L) (D.l z.L) (D.l z26.L)) [] z27.L)) (T.ite (decide (D.I (List.getD (List.getD a.L b.I.toNat []) 0 default) = (1 : Int)) && evB c.I h.I (D.I (List.getD (List.getD a.L b.I.toNat []) (0 + 1) default)) (D.I (List.getD (List.getD a.L b.I.toNat []) (0 + 1 + 1) default)) (D.I (List.getD (List.getD a.L b.I.toNat []) (0 + 1 + 1 + 1) default)) (D.I (List.getD (List.getD a.L b.I.toNat []) (0 + 1 + 1 + 1 + 1) default))) (T.leaf (Rd.again [D.i 1, D.l a.L, D.i (IntKind.wrap IntKind.i64 (b.I + (1 : Int))), D.i c.I, D.i d.I, D.i e.I, D.i f.I, D.i g.I, D.i h.I, D.b (evOv (D.I (List.getD (List.getD a.L b.I.toNat []) (0 + 1) default)) (D.I (List.getD (List.getD a.L b.I.toNat []) (0 + 1 + 1) default)) i.B k.B j.I), D.i (evOs (D.I (List.getD (List.getD a.L b.I.toNat []) (0 + 1) default)) (D.I (List.getD (List.getD a.L b.I.toNat []) (0 + 1 + 1) default)) j.I), D.b (evOh (D.I (List.getD (List.getD a.L b.I.toNat []) (0 + 1) default)) k.B), D.b (evCv (D.I (List.getD (List.getD a.L b.I.toNat []) (0 + 1) default)) (D.I (List.getD (List.getD a.L b.I.toNat []) (0 + 1 + 1) default)) l.B n.B m.I), D.i (evCs (D.I (List.getD (List.getD a.L b.I.toNat []) (0 + 1) default)) (D.I (List.getD (List.getD a.L b.I.toNat []) (0 + 1 + 1) default)) m.I), D.b (evCh (D.I (List.getD (List.getD a.L b.I.toNat []) (0 + 1) default)) n.B), D.i (↑(Int.toNat (o.I.toNat : Int)) : Int), D.i (↑(Int.toNat (p.I.toNat : Int)) : Int), D.i (↑(Int.toNat (q.I.toNat : Int)) : Int), D.i r.I, D.i s.I, D.i t.I, D.i u.I, D.i v.I, D.i w.I, D.i 1, D.i (↑(Int.toNat (x.I.toNat : Int)) : Int), D.l (evRd (D.I (List.getD (List.getD a.L b.I.toNat []) (0 + 1) default)) (D.I (List.getD (List.getD a.L b.I.toNat []) (0 + 1 + 1) default)) (D.I (List.getD (List.getD a.L b.I.toNat []) (0 + 1 + 1 + 1) default)) y.L), D.l (evPo (D.I (List.getD (List.getD a.L b.I.toNat []) (0 + 1) default)) (D.I (List.getD (List.getD a.L b.I.toNat []) (0 + 1 + 1) default)) (D.I (List.getD (List.getD a.L b.I.toNat []) (0 + 1 + 1 + 1) default)) z.L), D.l (evCa (D.I (List.getD (List.getD a.L b.I.toNat []) (0 + 1) default)) (D.I (List.getD (List.getD a.L b.I.toNat []) (0 + 1 + 1 + 1) default)) (D.I (List.getD (List.getD a.L b.I.toNat []) (0 + 1 + 1 + 1 + 1) default)) z26.L), D.l [[D.i (D.I (List.getD (List.getD a.L b.I.toNat []) (0 + 1) default)), D.i (D.I (List.getD (List.getD a.L b.I.toNat []) (0 + 1 + 1) default)), D.i (D.I (List.getD (List.getD a.L b.I.toNat []) (0 + 1 + 1 + 1) default)), D.i (D.I (List.getD (List.getD a.L b.I.toNat []) (0 + 1 + 1 + 1 + 1) default))]], D.l (refCa (D.I (List.getD (List.getD a.L b.I.toNat []) (0 + 1) default)) (D.I (List.getD (List.getD a.L b.I.toNat []) (0 + 1 + 1 + 1) default)) (D.I (List.getD (List.getD a.L b.I.toNat []) (0 + 1 + 1 + 1 + 1) default)) z27.L)])) (T.ite (decide (D.I (List.getD (List.getD a.L b.I.toNat []) 0 default) = (3 : Int)) && (validB h.I (D.I (List.getD (List.getD a.L b.I.toNat []) (0 + 1 + 1 + 1 + 1 + 1) default)) (D.I (List.getD (List.getD a.L b.I.toNat []) (0 + 1 + 1 + 1 + 1 + 1 + 1) default)) && List.isEmpty (rulesF (ruleB c.I d.I e.I f.I g.I i.B l.B y.L z.L z26.L (D.I (List.getD (List.getD a.L b.I.toNat []) (0 + 1 + 1 + 1 + 1 + 1) default)) (D.I (List.getD (List.getD a.L b.I.toNat []) (0 + 1 + 1 + 1 + 1 + 1 + 1) default))) 0 8 []))) (T.leaf (Rd.again [D.i 0, D.l a.L, D.i (IntKind.wrap IntKind.i64 (b.I + (1 : Int))), D.i c.I, D.i d.I, D.i e.I, D.i f.I, D.i g.I, D.i h.I, D.b i.B, D.i j.I, D.b k.B, D.b l.B, D.i m.I, D.b n.B, D.i (↑(Int.toNat (o.I.toNat : Int)) : Int), D.i (↑(Int.toNat (p.I.toNat : Int)) : Int), D.i (↑(Int.toNat (q.I.toNat : Int)) : Int), D.i r.I, D.i s.I, D.i t.I, D.i u.I, D.i v.I, D.i w.I, D.i (↑(Int.toNat (x.I.toNat : Int)) : Int), D.l y.L, D.l z.L, D.l (startC z26.L (Int.toNat (D.I (List.getD (List.getD a.L b.I.toNat []) (0 + 1 + 1 + 1 + 1 + 1) default))) (D.I (List.getD (List.getD a.L b.I.toNat []) (0 + 1 + 1 + 1 + 1 + 1 + 1) default))), D.l (startC z26.L (Int.toNat (D.I (List.getD (List.getD a.L b.I.toNat []) (0 + 1 + 1 + 1 + 1 + 1) default))) (D.I (List.getD (List.getD a.L b.I.toNat []) (0 + 1 + 1 + 1 + 1 + 1 + 1) default)))])) (T.leaf (Rd.again [D.i 0, D.l a.L, D.i (IntKind.wrap IntKind.i64 (b.I + (1 : Int))), D.i c.I, D.i d.I, D.i e.I, D.i f.I, D.i g.I, D.i h.I, D.b i.B, D.i j.I, D.b k.B, D.b l.B, D.i m.I, D.b n.B, D.i (↑(Int.toNat (o.I.toNat : Int)) : Int), D.i (↑(Int.toNat (p.I.toNat : Int)) : Int), D.i (↑(Int.toNat (q.I.toNat : Int)) : Int), D.i r.I, D.i s.I, D.i t.I, D.i u.I, D.i v.I, D.i w.I, D.i (↑(Int.toNat (x.I.toNat : Int)) : Int), D.l y.L, D.l z.L, D.l z26.L, D.l z27.L])))))) (T.leaf (Rd.out (Ex.exit 0) []))) := by kernel_rfl
theorem t11_10_1 (a b c d e f g h i j k l m n o p q r s t u v w x y z z26 z27 z28 z29 : D) : (roundT C tab11 11 (loopOf C.P 11 10) l11_10 (.i 1 :: [a, b, c, d, e, f, g, h, i, j, k, l, m, n, o, p, q, r, s, t, u, v, w, x, y, z, z26, z27, z28, z29])).run =
  T.run (T.ite (decide (b.I < (a.L.length : Int))) (T.need (decide ((0 : Int) ≤ b.I ∧ b.I < (a.L.length : Int))) (T.need (yes ((x.I.toNat : Int) = (z28.L.length : Int) ∧ InvW c.I d.I e.I f.I g.I h.I r.I s.I t.I u.I v.I w.I (o.I.toNat : Int) (p.I.toNat : Int) (q.I.toNat : Int) (y.I.toNat : Int) (gsOf (D.b i.B) (D.i j.I) (D.b k.B) (D.b l.B) (D.i m.I) (D.b n.B) (D.l z.L) (D.l z26.L) (D.l z27.L)) z28.L z29.L)) (T.ite (decide (D.I (List.getD (List.getD a.L b.I.toNat []) 0 default) = (1 : Int)) && evB c.I h.I (D.I (List.getD (List.getD a.L b.I.toNat []) (0 + 1) default)) (D.I (List.getD (List.getD a.L b.I.toNat []) (0 + 1 + 1) default)) (D.I (List.getD (List.getD a.L b.I.toNat []) (0 + 1 + 1 + 1) default)) (D.I (List.getD (List.getD a.L b.I.toNat []) (0 + 1 + 1 + 1 + 1) default))) (T.leaf (Rd.again [D.i 1, D.l a.L, D.i (IntKind.wrap IntKind.i64 (b.I + (1 : Int))), D.i c.I, D.i d.I, D.i e.I, D.i f.I, D.i g.I, D.i h.I, D.b (evOv (D.I (List.getD (List.getD a.L b.I.toNat []) (0 + 1) default)) (D.I (List.getD (List.getD a.L b.I.toNat []) (0 + 1 + 1) default)) i.B k.B j.I), D.i (evOs (D.I (List.getD (List.getD a.L b.I.toNat []) (0 + 1) default)) (D.I (List.getD (List.getD a.L b.I.toNat []) (0 + 1 + 1) default)) j.I), D.b (evOh (D.I (List.getD (List.getD a.L b.I.toNat []) (0 + 1) default)) k.B), D.b (evCv (D.I (List.getD (List.getD a.L b.I.toNat []) (0 + 1) default)) (D.I (List.getD (List.getD a.L b.I.toNat []) (0 + 1 + 1) default)) l.B n.B m.I), D.i (evCs (D.I (List.getD (List.getD a.L b.I.toNat []) (0 + 1) default)) (D.I (List.getD (List.getD a.L b.I.toNat []) (0 + 1 + 1) default)) m.I), D.b (evCh (D.I (List.getD (List.getD a.L b.I.toNat []) (0 + 1) default)) n.B), D.i (↑(Int.toNat (o.I.toNat : Int)) : Int), D.i (↑(Int.toNat (p.I.toNat : Int)) : Int), D.i (↑(Int.toNat (q.I.toNat : Int)) : Int), D.i r.I, D.i s.I, D.i t.I, D.i u.I, D.i v.I, D.i w.I, D.i (↑(Int.toNat (↑(z28.L.length + 1) : Int)) : Int), D.i (↑(Int.toNat (y.I.toNat : Int)) : Int), D.l (evRd (D.I (List.getD (List.getD a.L b.I.toNat []) (0 + 1) default)) (D.I (List.getD (List.getD a.L b.I.toNat []) (0 + 1 + 1) default)) (D.I (List.getD (List.getD a.L b.I.toNat []) (0 + 1 + 1 + 1) default)) z.L), D.l (evPo (D.I (List.getD (List.getD a.L b.I.toNat []) (0 + 1) default)) (D.I (List.getD (List.getD a.L b.I.toNat []) (0 + 1 + 1) default)) (D.I (List.getD (List.getD a.L b.I.toNat []) (0 + 1 + 1 + 1) default)) z26.L), D.l (evCa (D.I (List.getD (List.getD a.L b.I.toNat []) (0 + 1) default)) (D.I (List.getD (List.getD a.L b.I.toNat []) (0 + 1 + 1 + 1) default)) (D.I (List.getD (List.getD a.L b.I.toNat []) (0 + 1 + 1 + 1 + 1) default)) z27.L), D.l (z28.L ++ [evRow (D.i (D.I (List.getD (List.getD a.L b.I.toNat []) (0 + 1) default))) (D.i (D.I (List.getD (List.getD a.L b.I.toNat []) (0 + 1 + 1) default))) (D.i (D.I (List.getD (List.getD a.L b.I.toNat []) (0 + 1 + 1 + 1) default))) (D.i (D.I (List.getD (List.getD a.L b.I.toNat []) (0 + 1 + 1 + 1 + 1) default)))]), D.l (refCa (D.I (List.getD (List.getD a.L b.I.toNat []) (0 + 1) default)) (D.I (List.getD (List.getD a.L b.I.toNat []) (0 + 1 + 1 + 1) default)) (D.I (List.getD (List.getD a.L b.I.toNat []) (0 + 1 + 1 + 1 + 1) default)) z29.L)])) (T.ite (decide (D.I (List.getD (List.getD a.L b.I.toNat []) 0 default) = (3 : Int)) && (validB h.I (D.I (List.getD (List.getD a.L b.I.toNat []) (0 + 1 + 1 + 1 + 1 + 1) default)) (D.I (List.getD (List.getD a.L b.I.toNat []) (0 + 1 + 1 + 1 + 1 + 1 + 1) default)) && List.isEmpty (rulesF (ruleB c.I d.I e.I f.I g.I i.B l.B z.L z26.L z27.L (D.I (List.getD (List.getD a.L b.I.toNat []) (0 + 1 + 1 + 1 + 1 + 1) default)) (D.I (List.getD (List.getD a.L b.I.toNat []) (0 + 1 + 1 + 1 + 1 + 1 + 1) default))) 0 8 []))) (T.leaf (Rd.again [D.i 1, D.l a.L, D.i (IntKind.wrap IntKind.i64 (b.I + (1 : Int))), D.i c.I, D.i d.I, D.i e.I, D.i f.I, D.i g.I, D.i h.I, D.b i.B, D.i j.I, D.b k.B, D.b l.B, D.i m.I, D.b n.B, D.i (↑(Int.toNat (o.I.toNat : Int)) : Int), D.i (↑(Int.toNat (p.I.toNat : Int)) : Int), D.i (↑(Int.toNat (q.I.toNat : Int)) : Int), D.i r.I, D.i s.I, D.i t.I, D.i u.I, D.i v.I, D.i w.I, D.i (↑(Int.toNat (x.I.toNat : Int)) : Int), D.i (↑(Int.toNat (y.I.toNat : Int)) : Int), D.l z.L, D.l z26.L, D.l (startC z27.L (Int.toNat (D.I (List.getD (List.getD a.L b.I.toNat []) (0 + 1 + 1 + 1 + 1 + 1) default))) (D.I (List.getD (List.getD a.L b.I.toNat []) (0 + 1 + 1 + 1 + 1 + 1 + 1) default))), D.l z28.L, D.l (startC z27.L (Int.toNat (D.I (List.getD (List.getD a.L b.I.toNat []) (0 + 1 + 1 + 1 + 1 + 1) default))) (D.I (List.getD (List.getD a.L b.I.toNat []) (0 + 1 + 1 + 1 + 1 + 1 + 1) default)))])) (T.leaf (Rd.again [D.i 1, D.l a.L, D.i (IntKind.wrap IntKind.i64 (b.I + (1 : Int))), D.i c.I, D.i d.I, D.i e.I, D.i f.I, D.i g.I, D.i h.I, D.b i.B, D.i j.I, D.b k.B, D.b l.B, D.i m.I, D.b n.B, D.i (↑(Int.toNat (o.I.toNat : Int)) : Int), D.i (↑(Int.toNat (p.I.toNat : Int)) : Int), D.i (↑(Int.toNat (q.I.toNat : Int)) : Int), D.i r.I, D.i s.I, D.i t.I, D.i u.I, D.i v.I, D.i w.I, D.i (↑(Int.toNat (x.I.toNat : Int)) : Int), D.i (↑(Int.toNat (y.I.toNat : Int)) : Int), D.l z.L, D.l z26.L, D.l z27.L, D.l z28.L, D.l z29.L])))))) (T.leaf (Rd.out (Ex.exit 0) []))) := by kernel_rfl
end Go.Proofs.Ytgmefblkmidglaa
