/-
  What the claim rescue_safe rests on, part 7.
-/
import Derived.Test.YtgmefblkmidglaaZs6
namespace Go.Proofs.Ytgmefblkmidglaa
open Go.Lite
set_option linter.unusedVariables false
set_option maxRecDepth 100000
theorem t40_8_0 (a b c d e f g h i j k l m n o p q r s t u v w : D) : (roundTK C tab40 40 (loopOf C.P 40 8) 4 l40_8 [.i 0, a, b, c, d, e, f, g, h, i, j, k, l, m, n, o, p, q, r, s, t, u, v, w]).run =
  T.run (T.ite (decide (e.I < d.I)) (T.need (decide ((0 : Int) ≤ e.I ∧ e.I < (c.I.toNat : Int))) (T.ite (decide ((e.I.toNat : Int) = (↑0 : Int))) (T.need (decide (r.I.toNat ≤ u.L.length)) (T.need (decide (s.I.toNat ≤ v.L.length)) (T.need (decide (t.I.toNat ≤ w.L.length)) (T.ite (!l.B) (T.leaf (Rd.again [D.i 1, D.i a.I, D.i b.I, D.i 1, D.i (c.I.toNat : Int), D.i d.I, D.i (IntKind.wrap IntKind.i64 (e.I + (1 : Int))), D.i f.I, D.i g.I, D.i h.I, D.i i.I, D.i j.I, D.i k.I, D.b l.B, D.i m.I, D.b n.B, D.b o.B, D.i p.I, D.b q.B, D.i (r.I.toNat : Int), D.i (s.I.toNat : Int), D.i (t.I.toNat : Int), D.l u.L, D.l v.L, D.l w.L, D.l [[D.i (IntKind.wrap IntKind.i64 ((1 : Int) + e.I))]]])) (T.leaf (Rd.again [D.i 0, D.i a.I, D.i b.I, D.i (c.I.toNat : Int), D.i d.I, D.i (IntKind.wrap IntKind.i64 (e.I + (1 : Int))), D.i f.I, D.i g.I, D.i h.I, D.i i.I, D.i j.I, D.i k.I, D.b l.B, D.i m.I, D.b n.B, D.b o.B, D.i p.I, D.b q.B, D.i (r.I.toNat : Int), D.i (s.I.toNat : Int), D.i (t.I.toNat : Int), D.l u.L, D.l v.L, D.l w.L])))))) (T.ite (decide ((e.I.toNat : Int) = (↑(0 + 1) : Int))) (T.need (decide (r.I.toNat ≤ u.L.length)) (T.need (decide (s.I.toNat ≤ v.L.length)) (T.need (decide (t.I.toNat ≤ w.L.length)) (T.need (yes (List.length (List.take r.I.toNat u.L) < big)) (T.ite (anyL redR (List.take r.I.toNat u.L)) (T.leaf (Rd.again [D.i 1, D.i a.I, D.i b.I, D.i 1, D.i (c.I.toNat : Int), D.i d.I, D.i (IntKind.wrap IntKind.i64 (e.I + (1 : Int))), D.i f.I, D.i g.I, D.i h.I, D.i i.I, D.i j.I, D.i k.I, D.b l.B, D.i m.I, D.b n.B, D.b o.B, D.i p.I, D.b q.B, D.i (r.I.toNat : Int), D.i (s.I.toNat : Int), D.i (t.I.toNat : Int), D.l u.L, D.l v.L, D.l w.L, D.l [[D.i (IntKind.wrap IntKind.i64 ((1 : Int) + e.I))]]])) (T.leaf (Rd.again [D.i 0, D.i a.I, D.i b.I, D.i (c.I.toNat : Int), D.i d.I, D.i (IntKind.wrap IntKind.i64 (e.I + (1 : Int))), D.i f.I, D.i g.I, D.i h.I, D.i i.I, D.i j.I, D.i k.I, D.b l.B, D.i m.I, D.b n.B, D.b o.B, D.i p.I, D.b q.B, D.i (r.I.toNat : Int), D.i (s.I.toNat : Int), D.i (t.I.toNat : Int), D.l u.L, D.l v.L, D.l w.L]))))))) (T.ite (decide ((e.I.toNat : Int) = (↑(0 + 1 + 1) : Int))) (T.need (decide (r.I.toNat ≤ u.L.length)) (T.need (decide (s.I.toNat ≤ v.L.length)) (T.need (decide (t.I.toNat ≤ w.L.length)) (T.need (yes (List.length (List.take s.I.toNat v.L) < big ∧ okLo (List.take s.I.toNat v.L) ∧ tOK b.I)) (T.ite (anyL (silR b.I g.I) (List.take s.I.toNat v.L)) (T.leaf (Rd.again [D.i 1, D.i a.I, D.i b.I, D.i 1, D.i (c.I.toNat : Int), D.i d.I, D.i (IntKind.wrap IntKind.i64 (e.I + (1 : Int))), D.i f.I, D.i g.I, D.i h.I, D.i i.I, D.i j.I, D.i k.I, D.b l.B, D.i m.I, D.b n.B, D.b o.B, D.i p.I, D.b q.B, D.i (r.I.toNat : Int), D.i (s.I.toNat : Int), D.i (t.I.toNat : Int), D.l u.L, D.l v.L, D.l w.L, D.l [[D.i (IntKind.wrap IntKind.i64 ((1 : Int) + e.I))]]])) (T.leaf (Rd.again [D.i 0, D.i a.I, D.i b.I, D.i (c.I.toNat : Int), D.i d.I, D.i (IntKind.wrap IntKind.i64 (e.I + (1 : Int))), D.i f.I, D.i g.I, D.i h.I, D.i i.I, D.i j.I, D.i k.I, D.b l.B, D.i m.I, D.b n.B, D.b o.B, D.i p.I, D.b q.B, D.i (r.I.toNat : Int), D.i (s.I.toNat : Int), D.i (t.I.toNat : Int), D.l u.L, D.l v.L, D.l w.L]))))))) (T.ite (decide ((e.I.toNat : Int) = (↑(0 + 1 + 1 + 1) : Int))) (T.need (decide (r.I.toNat ≤ u.L.length)) (T.need (decide (s.I.toNat ≤ v.L.length)) (T.need (decide (t.I.toNat ≤ w.L.length)) (T.ite (!o.B) (T.leaf (Rd.again [D.i 1, D.i a.I, D.i b.I, D.i 1, D.i (c.I.toNat : Int), D.i d.I, D.i (IntKind.wrap IntKind.i64 (e.I + (1 : Int))), D.i f.I, D.i g.I, D.i h.I, D.i i.I, D.i j.I, D.i k.I, D.b l.B, D.i m.I, D.b n.B, D.b o.B, D.i p.I, D.b q.B, D.i (r.I.toNat : Int), D.i (s.I.toNat : Int), D.i (t.I.toNat : Int), D.l u.L, D.l v.L, D.l w.L, D.l [[D.i (IntKind.wrap IntKind.i64 ((1 : Int) + e.I))]]])) (T.leaf (Rd.again [D.i 0, D.i a.I, D.i b.I, D.i (c.I.toNat : Int), D.i d.I, D.i (IntKind.wrap IntKind.i64 (e.I + (1 : Int))), D.i f.I, D.i g.I, D.i h.I, D.i i.I, D.i j.I, D.i k.I, D.b l.B, D.i m.I, D.b n.B, D.b o.B, D.i p.I, D.b q.B, D.i (r.I.toNat : Int), D.i (s.I.toNat : Int), D.i (t.I.toNat : Int), D.l u.L, D.l v.L, D.l w.L])))))) (T.ite (decide ((e.I.toNat : Int) = (↑(0 + 1 + 1 + 1 + 1) : Int))) (T.need (decide (r.I.toNat ≤ u.L.length)) (T.need (decide (s.I.toNat ≤ v.L.length)) (T.need (decide (t.I.toNat ≤ w.L.length)) (T.need (yes (okPl f.I g.I h.I i.I j.I k.I ∧ List.length (List.take t.I.toNat w.L) < big)) (T.ite (anyL (both (befR h.I)) (List.take t.I.toNat w.L)) (T.leaf (Rd.again [D.i 1, D.i a.I, D.i b.I, D.i 1, D.i (c.I.toNat : Int), D.i d.I, D.i (IntKind.wrap IntKind.i64 (e.I + (1 : Int))), D.i f.I, D.i g.I, D.i h.I, D.i i.I, D.i j.I, D.i k.I, D.b l.B, D.i m.I, D.b n.B, D.b o.B, D.i p.I, D.b q.B, D.i (r.I.toNat : Int), D.i (s.I.toNat : Int), D.i (t.I.toNat : Int), D.l u.L, D.l v.L, D.l w.L, D.l [[D.i (IntKind.wrap IntKind.i64 ((1 : Int) + e.I))]]])) (T.leaf (Rd.again [D.i 0, D.i a.I, D.i b.I, D.i (c.I.toNat : Int), D.i d.I, D.i (IntKind.wrap IntKind.i64 (e.I + (1 : Int))), D.i f.I, D.i g.I, D.i h.I, D.i i.I, D.i j.I, D.i k.I, D.b l.B, D.i m.I, D.b n.B, D.b o.B, D.i p.I, D.b q.B, D.i (r.I.toNat : Int), D.i (s.I.toNat : Int), D.i (t.I.toNat : Int), D.l u.L, D.l v.L, D.l w.L]))))))) (T.ite (decide ((e.I.toNat : Int) = (↑(0 + 1 + 1 + 1 + 1 + 1) : Int))) (T.need (decide (r.I.toNat ≤ u.L.length)) (T.need (decide (s.I.toNat ≤ v.L.length)) (T.need (decide (t.I.toNat ≤ w.L.length)) (T.need (yes (okPl f.I g.I h.I i.I j.I k.I ∧ List.length (List.take t.I.toNat w.L) < big ∧ okCa (List.take t.I.toNat w.L) ∧ tOK b.I)) (T.ite (anyL (both (misR f.I j.I b.I)) (List.take t.I.toNat w.L)) (T.leaf (Rd.again [D.i 1, D.i a.I, D.i b.I, D.i 1, D.i (c.I.toNat : Int), D.i d.I, D.i (IntKind.wrap IntKind.i64 (e.I + (1 : Int))), D.i f.I, D.i g.I, D.i h.I, D.i i.I, D.i j.I, D.i k.I, D.b l.B, D.i m.I, D.b n.B, D.b o.B, D.i p.I, D.b q.B, D.i (r.I.toNat : Int), D.i (s.I.toNat : Int), D.i (t.I.toNat : Int), D.l u.L, D.l v.L, D.l w.L, D.l [[D.i (IntKind.wrap IntKind.i64 ((1 : Int) + e.I))]]])) (T.leaf (Rd.again [D.i 0, D.i a.I, D.i b.I, D.i (c.I.toNat : Int), D.i d.I, D.i (IntKind.wrap IntKind.i64 (e.I + (1 : Int))), D.i f.I, D.i g.I, D.i h.I, D.i i.I, D.i j.I, D.i k.I, D.b l.B, D.i m.I, D.b n.B, D.b o.B, D.i p.I, D.b q.B, D.i (r.I.toNat : Int), D.i (s.I.toNat : Int), D.i (t.I.toNat : Int), D.l u.L, D.l v.L, D.l w.L]))))))) (T.ite (decide ((e.I.toNat : Int) = (↑(0 + 1 + 1 + 1 + 1 + 1 + 1) : Int))) (T.need (decide (r.I.toNat ≤ u.L.length)) (T.need (decide (s.I.toNat ≤ v.L.length)) (T.need (decide (t.I.toNat ≤ w.L.length)) (T.need (yes (okPl f.I g.I h.I i.I j.I k.I ∧ List.length (List.take t.I.toNat w.L) < big ∧ okCa (List.take t.I.toNat w.L) ∧ tOK b.I)) (T.ite (anyL (both (intR i.I b.I)) (List.take t.I.toNat w.L)) (T.leaf (Rd.again [D.i 1, D.i a.I, D.i b.I, D.i 1, D.i (c.I.toNat : Int), D.i d.I, D.i (IntKind.wrap IntKind.i64 (e.I + (1 : Int))), D.i f.I, D.i g.I, D.i h.I, D.i i.I, D.i j.I, D.i k.I, D.b l.B, D.i m.I, D.b n.B, D.b o.B, D.i p.I, D.b q.B, D.i (r.I.toNat : Int), D.i (s.I.toNat : Int), D.i (t.I.toNat : Int), D.l u.L, D.l v.L, D.l w.L, D.l [[D.i (IntKind.wrap IntKind.i64 ((1 : Int) + e.I))]]])) (T.leaf (Rd.again [D.i 0, D.i a.I, D.i b.I, D.i (c.I.toNat : Int), D.i d.I, D.i (IntKind.wrap IntKind.i64 (e.I + (1 : Int))), D.i f.I, D.i g.I, D.i h.I, D.i i.I, D.i j.I, D.i k.I, D.b l.B, D.i m.I, D.b n.B, D.b o.B, D.i p.I, D.b q.B, D.i (r.I.toNat : Int), D.i (s.I.toNat : Int), D.i (t.I.toNat : Int), D.l u.L, D.l v.L, D.l w.L]))))))) (T.need (decide ((e.I.toNat : Int) = (↑(0 + 1 + 1 + 1 + 1 + 1 + 1 + 1) : Int))) (T.need (decide (r.I.toNat ≤ u.L.length)) (T.need (decide (s.I.toNat ≤ v.L.length)) (T.need (decide (t.I.toNat ≤ w.L.length)) (T.need (yes (List.length (List.take t.I.toNat w.L) < big ∧ (0 : Int) ≤ a.I ∧ a.I ≤ (↑(List.length (List.take t.I.toNat w.L)) : Int))) (T.ite (anyL stR (List.drop a.I.toNat (List.take t.I.toNat w.L))) (T.leaf (Rd.again [D.i 1, D.i a.I, D.i b.I, D.i 1, D.i (c.I.toNat : Int), D.i d.I, D.i (IntKind.wrap IntKind.i64 (e.I + (1 : Int))), D.i f.I, D.i g.I, D.i h.I, D.i i.I, D.i j.I, D.i k.I, D.b l.B, D.i m.I, D.b n.B, D.b o.B, D.i p.I, D.b q.B, D.i (r.I.toNat : Int), D.i (s.I.toNat : Int), D.i (t.I.toNat : Int), D.l u.L, D.l v.L, D.l w.L, D.l [[D.i (IntKind.wrap IntKind.i64 ((1 : Int) + e.I))]]])) (T.leaf (Rd.again [D.i 0, D.i a.I, D.i b.I, D.i (c.I.toNat : Int), D.i d.I, D.i (IntKind.wrap IntKind.i64 (e.I + (1 : Int))), D.i f.I, D.i g.I, D.i h.I, D.i i.I, D.i j.I, D.i k.I, D.b l.B, D.i m.I, D.b n.B, D.b o.B, D.i p.I, D.b q.B, D.i (r.I.toNat : Int), D.i (s.I.toNat : Int), D.i (t.I.toNat : Int), D.l u.L, D.l v.L, D.l w.L])))))))))))))))) (T.leaf (Rd.out (Ex.exit 0) [D.i 0, D.i f.I, D.i g.I, D.i h.I, D.i i.I, D.i j.I, D.i k.I, D.b l.B, D.i m.I, D.b n.B, D.b o.B, D.i p.I, D.b q.B, D.i (r.I.toNat : Int), D.i (s.I.toNat : Int), D.i (t.I.toNat : Int), D.l u.L, D.l v.L, D.l w.L]))) := by kernel_rfl
end Go.Proofs.Ytgmefblkmidglaa
namespace Go.Proofs.Ytgmefblkmidglaa
open Go.Lite
set_option linter.unusedVariables false
set_option maxRecDepth 100000
theorem t40_8_1 (a b c d e f g h i j k l m n o p q r s t u v w x y : D) : (roundTK C tab40 40 (loopOf C.P 40 8) 4 l40_8 [.i 1, a, b, c, d, e, f, g, h, i, j, k, l, m, n, o, p, q, r, s, t, u, v, w, x, y]).run =
  T.run (T.ite (decide (f.I < e.I)) (T.need (decide ((0 : Int) ≤ f.I ∧ f.I < (d.I.toNat : Int))) (T.ite (decide ((f.I.toNat : Int) = (↑0 : Int))) (T.need (decide (s.I.toNat ≤ v.L.length)) (T.need (decide (t.I.toNat ≤ w.L.length)) (T.need (decide (u.I.toNat ≤ x.L.length)) (T.ite (!m.B) (T.need (decide (c.I.toNat ≤ y.L.length ∧ c.I.toNat + List.length (List.take (List.length [[D.i (IntKind.wrap IntKind.i64 ((1 : Int) + f.I))]]) [[D.i (IntKind.wrap IntKind.i64 ((1 : Int) + f.I))]]) ≤ 2 ^ 62 ∧ (c.I.toNat + List.length (List.take (List.length [[D.i (IntKind.wrap IntKind.i64 ((1 : Int) + f.I))]]) [[D.i (IntKind.wrap IntKind.i64 ((1 : Int) + f.I))]])) * Try.prog.types[109].bytes ≤ 2 ^ 47)) (T.leaf (Rd.again [D.i 1, D.i a.I, D.i b.I, D.i (↑(c.I.toNat + List.length (List.take (List.length [[D.i (IntKind.wrap IntKind.i64 ((1 : Int) + f.I))]]) [[D.i (IntKind.wrap IntKind.i64 ((1 : Int) + f.I))]])) : Int), D.i (d.I.toNat : Int), D.i e.I, D.i (IntKind.wrap IntKind.i64 (f.I + (1 : Int))), D.i g.I, D.i h.I, D.i i.I, D.i j.I, D.i k.I, D.i l.I, D.b m.B, D.i n.I, D.b o.B, D.b p.B, D.i q.I, D.b r.B, D.i (s.I.toNat : Int), D.i (t.I.toNat : Int), D.i (u.I.toNat : Int), D.l v.L, D.l w.L, D.l x.L, D.l (List.take c.I.toNat y.L ++ List.take (List.length [[D.i (IntKind.wrap IntKind.i64 ((1 : Int) + f.I))]]) [[D.i (IntKind.wrap IntKind.i64 ((1 : Int) + f.I))]])]))) (T.leaf (Rd.again [D.i 1, D.i a.I, D.i b.I, D.i (c.I.toNat : Int), D.i (d.I.toNat : Int), D.i e.I, D.i (IntKind.wrap IntKind.i64 (f.I + (1 : Int))), D.i g.I, D.i h.I, D.i i.I, D.i j.I, D.i k.I, D.i l.I, D.b m.B, D.i n.I, D.b o.B, D.b p.B, D.i q.I, D.b r.B, D.i (s.I.toNat : Int), D.i (t.I.toNat : Int), D.i (u.I.toNat : Int), D.l v.L, D.l w.L, D.l x.L, D.l y.L])))))) (T.ite (decide ((f.I.toNat : Int) = (↑(0 + 1) : Int))) (T.need (decide (s.I.toNat ≤ v.L.length)) (T.need (decide (t.I.toNat ≤ w.L.length)) (T.need (decide (u.I.toNat ≤ x.L.length)) (T.need (yes (List.length (List.take s.I.toNat v.L) < big)) (T.ite (anyL redR (List.take s.I.toNat v.L)) (T.need (decide (c.I.toNat ≤ y.L.length ∧ c.I.toNat + List.length (List.take (List.length [[D.i (IntKind.wrap IntKind.i64 ((1 : Int) + f.I))]]) [[D.i (IntKind.wrap IntKind.i64 ((1 : Int) + f.I))]]) ≤ 2 ^ 62 ∧ (c.I.toNat + List.length (List.take (List.length [[D.i (IntKind.wrap IntKind.i64 ((1 : Int) + f.I))]]) [[D.i (IntKind.wrap IntKind.i64 ((1 : Int) + f.I))]])) * Try.prog.types[109].bytes ≤ 2 ^ 47)) (T.leaf (Rd.again [D.i 1, D.i a.I, D.i b.I, D.i (↑(c.I.toNat + List.length (List.take (List.length [[D.i (IntKind.wrap IntKind.i64 ((1 : Int) + f.I))]]) [[D.i (IntKind.wrap IntKind.i64 ((1 : Int) + f.I))]])) : Int), D.i (d.I.toNat : Int), D.i e.I, D.i (IntKind.wrap IntKind.i64 (f.I + (1 : Int))), D.i g.I, D.i h.I, D.i i.I, D.i j.I, D.i k.I, D.i l.I, D.b m.B, D.i n.I, D.b o.B, D.b p.B, D.i q.I, D.b r.B, D.i (s.I.toNat : Int), D.i (t.I.toNat : Int), D.i (u.I.toNat : Int), D.l v.L, D.l w.L, D.l x.L, D.l (List.take c.I.toNat y.L ++ List.take (List.length [[D.i (IntKind.wrap IntKind.i64 ((1 : Int) + f.I))]]) [[D.i (IntKind.wrap IntKind.i64 ((1 : Int) + f.I))]])]))) (T.leaf (Rd.again [D.i 1, D.i a.I, D.i b.I, D.i (c.I.toNat : Int), D.i (d.I.toNat : Int), D.i e.I, D.i (IntKind.wrap IntKind.i64 (f.I + (1 : Int))), D.i g.I, D.i h.I, D.i i.I, D.i j.I, D.i k.I, D.i l.I, D.b m.B, D.i n.I, D.b o.B, D.b p.B, D.i q.I, D.b r.B, D.i (s.I.toNat : Int), D.i (t.I.toNat : Int), D.i (u.I.toNat : Int), D.l v.L, D.l w.L, D.l x.L, D.l y.L]))))))) (T.ite (decide ((f.I.toNat : Int) = (↑(0 + 1 + 1) : Int))) (T.need (decide (s.I.toNat ≤ v.L.length)) (T.need (decide (t.I.toNat ≤ w.L.length)) (T.need (decide (u.I.toNat ≤ x.L.length)) (T.need (yes (List.length (List.take t.I.toNat w.L) < big ∧ okLo (List.take t.I.toNat w.L) ∧ tOK b.I)) (T.ite (anyL (silR b.I h.I) (List.take t.I.toNat w.L)) (T.need (decide (c.I.toNat ≤ y.L.length ∧ c.I.toNat + List.length (List.take (List.length [[D.i (IntKind.wrap IntKind.i64 ((1 : Int) + f.I))]]) [[D.i (IntKind.wrap IntKind.i64 ((1 : Int) + f.I))]]) ≤ 2 ^ 62 ∧ (c.I.toNat + List.length (List.take (List.length [[D.i (IntKind.wrap IntKind.i64 ((1 : Int) + f.I))]]) [[D.i (IntKind.wrap IntKind.i64 ((1 : Int) + f.I))]])) * Try.prog.types[109].bytes ≤ 2 ^ 47)) (T.leaf (Rd.again [D.i 1, D.i a.I, D.i b.I, D.i (↑(c.I.toNat + List.length (List.take (List.length [[D.i (IntKind.wrap IntKind.i64 ((1 : Int) + f.I))]]) [[D.i (IntKind.wrap IntKind.i64 ((1 : Int) + f.I))]])) : Int), D.i (d.I.toNat : Int), D.i e.I, D.i (IntKind.wrap IntKind.i64 (f.I + (1 : Int))), D.i g.I, D.i h.I, D.i i.I, D.i j.I, D.i k.I, D.i l.I, D.b m.B, D.i n.I, D.b o.B, D.b p.B, D.i q.I, D.b r.B, D.i (s.I.toNat : Int), D.i (t.I.toNat : Int), D.i (u.I.toNat : Int), D.l v.L, D.l w.L, D.l x.L, D.l (List.take c.I.toNat y.L ++ List.take (List.length [[D.i (IntKind.wrap IntKind.i64 ((1 : Int) + f.I))]]) [[D.i (IntKind.wrap IntKind.i64 ((1 : Int) + f.I))]])]))) (T.leaf (Rd.again [D.i 1, D.i a.I, D.i b.I, D.i (c.I.toNat : Int), D.i (d.I.toNat : Int), D.i e.I, D.i (IntKind.wrap IntKind.i64 (f.I + (1 : Int))), D.i g.I, D.i h.I, D.i i.I, D.i j.I, D.i k.I, D.i l.I, D.b m.B, D.i n.I, D.b o.B, D.b p.B, D.i q.I, D.b r.B, D.i (s.I.toNat : Int), D.i (t.I.toNat : Int), D.i (u.I.toNat : Int), D.l v.L, D.l w.L, D.l x.L, D.l y.L]))))))) (T.ite (decide ((f.I.toNat : Int) = (↑(0 + 1 + 1 + 1) : Int))) (T.need (decide (s.I.toNat ≤ v.L.length)) (T.need (decide (t.I.toNat ≤ w.L.length)) (T.need (decide (u.I.toNat ≤ x.L.length)) (T.ite (!p.B) (T.need (decide (c.I.toNat ≤ y.L.length ∧ c.I.toNat + List.length (List.take (List.length [[D.i (IntKind.wrap IntKind.i64 ((1 : Int) + f.I))]]) [[D.i (IntKind.wrap IntKind.i64 ((1 : Int) + f.I))]]) ≤ 2 ^ 62 ∧ (c.I.toNat + List.length (List.take (List.length [[D.i (IntKind.wrap IntKind.i64 ((1 : Int) + f.I))]]) [[D.i (IntKind.wrap IntKind.i64 ((1 : Int) + f.I))]])) * Try.prog.types[109].bytes ≤ 2 ^ 47)) (T.leaf (Rd.again [D.i 1, D.i a.I, D.i b.I, D.i (↑(c.I.toNat + List.length (List.take (List.length [[D.i (IntKind.wrap IntKind.i64 ((1 : Int) + f.I))]]) [[D.i (IntKind.wrap IntKind.i64 ((1 : Int) + f.I))]])) : Int), D.i (d.I.toNat : Int), D.i e.I, D.i (IntKind.wrap IntKind.i64 (f.I + (1 : Int))), D.i g.I, D.i h.I, D.i i.I, D.i j.I, D.i k.I, D.i l.I, D.b m.B, D.i n.I, D.b o.B, D.b p.B, D.i q.I, D.b r.B, D.i (s.I.toNat : Int), D.i (t.I.toNat : Int), D.i (u.I.toNat : Int), D.l v.L, D.l w.L, D.l x.L, D.l (List.take c.I.toNat y.L ++ List.take (List.length [[D.i (IntKind.wrap IntKind.i64 ((1 : Int) + f.I))]]) [[D.i (IntKind.wrap IntKind.i64 ((1 : Int) + f.I))]])]))) (T.leaf (Rd.again [D.i 1, D.i a.I, D.i b.I, D.i (c.I.toNat : Int), D.i (d.I.toNat : Int), D.i e.I, D.i (IntKind.wrap IntKind.i64 (f.I + (1 : Int))), D.i g.I, D.i h.I, D.i i.I, D.i j.I, D.i k.I, D.i l.I, D.b m.B, D.i n.I, D.b o.B, D.b p.B, D.i q.I, D.b r.B, D.i (s.I.toNat : Int), D.i (t.I.toNat : Int), D.i (u.I.toNat : Int), D.l v.L, D.l w.L, D.l x.L, D.l y.L])))))) (T.ite (decide ((f.I.toNat : Int) = (↑(0 + 1 + 1 + 1 + 1) : Int))) (T.need (decide (s.I.toNat ≤ v.L.length)) (T.need (decide (t.I.toNat ≤ w.L.length)) (T.need (decide (u.I.toNat ≤ x.L.length)) (T.need (yes (okPl g.I h.I i.I j.I k.I l.I ∧ List.length (List.take u.I.toNat x.L) < big)) (T.ite (anyL (both (befR i.I)) (List.take u.I.toNat x.L)) (T.need (decide (c.I.toNat ≤ y.L.length ∧ c.I.toNat + List.length (List.take (List.length [[D.i (IntKind.wrap IntKind.i64 ((1 : Int) + f.I))]]) [[D.i (IntKind.wrap IntKind.i64 ((1 : Int) + f.I))]]) ≤ 2 ^ 62 ∧ (c.I.toNat + List.length (List.take (List.length [[D.i (IntKind.wrap IntKind.i64 ((1 : Int) + f.I))]]) [[D.i (IntKind.wrap IntKind.i64 ((1 : Int) + f.I))]])) * Try.prog.types[109].bytes ≤ 2 ^ 47)) (T.leaf (Rd.again [D.i 1, D.i a.I, D.i b.I, D.i (↑(c.I.toNat + List.length (List.take (List.length [[D.i (IntKind.wrap IntKind.i64 ((1 : Int) + f.I))]]) [[D.i (IntKind.wrap IntKind.i64 ((1 : Int) + f.I))]])) : Int), D.i (d.I.toNat : Int), D.i e.I, D.i (IntKind.wrap IntKind.i64 (f.I + (1 : Int))), D.i g.I, D.i h.I, D.i i.I, D.i j.I, D.i k.I, D.i l.I, D.b m.B, D.i n.I, D.b o.B, D.b p.B, D.i q.I, D.b r.B, D.i (s.I.toNat : Int), D.i (t.I.toNat : Int), D.i (u.I.toNat : Int), D.l v.L, D.l w.L, D.l x.L, D.l (List.take c.I.toNat y.L ++ List.take (List.length [[D.i (IntKind.wrap IntKind.i64 ((1 : Int) + f.I))]]) [[D.i (IntKind.wrap IntKind.i64 ((1 : Int) + f.I))]])]))) (T.leaf (Rd.again [D.i 1, D.i a.I, D.i b.I, D.i (c.I.toNat : Int), D.i (d.I.toNat : Int), D.i e.I, D.i (IntKind.wrap IntKind.i64 (f.I + (1 : Int))), D.i g.I, D.i h.I, D.i i.I, D.i j.I, D.i k.I, D.i l.I, D.b m.B, D.i n.I, D.b o.B, D.b p.B, D.i q.I, D.b r.B, D.i (s.I.toNat : Int), D.i (t.I.toNat : Int), D.i (u.I.toNat : Int), D.l v.L, D.l w.L, D.l x.L, D.l y.L]))))))) (T.ite (decide ((f.I.toNat : Int) = (↑(0 + 1 + 1 + 1 + 1 + 1) : Int))) (T.need (decide (s.I.toNat ≤ v.L.length)) (T.need (decide (t.I.toNat ≤ w.L.length)) (T.need (decide (u.I.toNat ≤ x.L.length)) (T.need (yes (okPl g.I h.I i.I j.I k.I l.I ∧ List.length (List.take u.I.toNat x.L) < big ∧ okCa (List.take u.I.toNat x.L) ∧ tOK b.I)) (T.ite (anyL (both (misR g.I k.I b.I)) (List.take u.I.toNat x.L)) (T.need (decide (c.I.toNat ≤ y.L.length ∧ c.I.toNat + List.length (List.take (List.length [[D.i (IntKind.wrap IntKind.i64 ((1 : Int) + f.I))]]) [[D.i (IntKind.wrap IntKind.i64 ((1 : Int) + f.I))]]) ≤ 2 ^ 62 ∧ (c.I.toNat + List.length (List.take (List.length [[D.i (IntKind.wrap IntKind.i64 ((1 : Int) + f.I))]]) [[D.i (IntKind.wrap IntKind.i64 ((1 : Int) + f.I))]])) * Try.prog.types[109].bytes ≤ 2 ^ 47)) (T.leaf (Rd.again [D.i 1, D.i a.I, D.i b.I, D.i (↑(c.I.toNat + List.length (List.take (List.length [[D.i (IntKind.wrap IntKind.i64 ((1 : Int) + f.I))]]) [[D.i (IntKind.wrap IntKind.i64 ((1 : Int) + f.I))]])) : Int), D.i (d.I.toNat : Int), D.i e.I, D.i (IntKind.wrap IntKind.i64 (f.I + (1 : Int))), D.i g.I, D.i h.I, D.i i.I, D.i j.I, D.i k.I, D.i l.I, D.b m.B, D.i n.I, D.b o.B, D.b p.B, D.i q.I, D.b r.B, D.i (s.I.toNat : Int), D.i (t.I.toNat : Int), D.i (u.I.toNat : Int), D.l v.L, D.l w.L, D.l x.L, D.l (List.take c.I.toNat y.L ++ List.take (List.length [[D.i (IntKind.wrap IntKind.i64 ((1 : Int) + f.I))]]) [[D.i (IntKind.wrap IntKind.i64 ((1 : Int) + f.I))]])]))) (T.leaf (Rd.again [D.i 1, D.i a.I, D.i b.I, D.i (c.I.toNat : Int), D.i (d.I.toNat : Int), D.i e.I, D.i (IntKind.wrap IntKind.i64 (f.I + (1 : Int))), D.i g.I, D.i h.I, D.i i.I, D.i j.I, D.i k.I, D.i l.I, D.b m.B, D.i n.I, D.b o.B, D.b p.B, D.i q.I, D.b r.B, D.i (s.I.toNat : Int), D.i (t.I.toNat : Int), D.i (u.I.toNat : Int), D.l v.L, D.l w.L, D.l x.L, D.l y.L]))))))) (T.ite (decide ((f.I.toNat : Int) = (↑(0 + 1 + 1 + 1 + 1 + 1 + 1) : Int))) (T.need (decide (s.I.toNat ≤ v.L.length)) (T.need (decide (t.I.toNat ≤ w.L.length)) (T.need (decide (u.I.toNat ≤ x.L.length)) (T.need (yes (okPl g.I h.I i.I j.I k.I l.I ∧ List.length (List.take u.I.toNat x.L) < big ∧ okCa (List.take u.I.toNat x.L) ∧ tOK b.I)) (T.ite (anyL (both (intR j.I b.I)) (List.take u.I.toNat x.L)) (T.need (decide (c.I.toNat ≤ y.L.length ∧ c.I.toNat + List.length (List.take (List.length [[D.i (IntKind.wrap IntKind.i64 ((1 : Int) + f.I))]]) [[D.i (IntKind.wrap IntKind.i64 ((1 : Int) + f.I))]]) ≤ 2 ^ 62 ∧ (c.I.toNat + List.length (List.take (List.length [[D.i (IntKind.wrap IntKind.i64 ((1 : Int) + f.I))]]) [[D.i (IntKind.wrap IntKind.i64 ((1 : Int) + f.I))]])) * Try.prog.types[109].bytes ≤ 2 ^ 47)) (T.leaf (Rd.again [D.i 1, D.i a.I, D.i b.I, D.i (↑(c.I.toNat + List.length (List.take (List.length [[D.i (IntKind.wrap IntKind.i64 ((1 : Int) + f.I))]]) [[D.i (IntKind.wrap IntKind.i64 ((1 : Int) + f.I))]])) : Int), D.i (d.I.toNat : Int), D.i e.I, D.i (IntKind.wrap IntKind.i64 (f.I + (1 : Int))), D.i g.I, D.i h.I, D.i i.I, D.i j.I, D.i k.I, D.i l.I, D.b m.B, D.i n.I, D.b o.B, D.b p.B, D.i q.I, D.b r.B, D.i (s.I.toNat : Int), D.i (t.I.toNat : Int), D.i (u.I.toNat : Int), D.l v.L, D.l w.L, D.l x.L, D.l (List.take c.I.toNat y.L ++ List.take (List.length [[D.i (IntKind.wrap IntKind.i64 ((1 : Int) + f.I))]]) [[D.i (IntKind.wrap IntKind.i64 ((1 : Int) + f.I))]])]))) (T.leaf (Rd.again [D.i 1, D.i a.I, D.i b.I, D.i (c.I.toNat : Int), D.i (d.I.toNat : Int), D.i e.I, D.i (IntKind.wrap IntKind.i64 (f.I + (1 : Int))), D.i g.I, D.i h.I, D.i i.I, D.i j.I, D.i k.I, D.i l.I, D.b m.B, D.i n.I, D.b o.B, D.b p.B, D.i q.I, D.b r.B, D.i (s.I.toNat : Int), D.i (t.I.toNat : Int), D.i (u.I.toNat : Int), D.l v.L, D.l w.L, D.l x.L, D.l y.L]))))))) (T.need (decide ((f.I.toNat : Int) = (↑(0 + 1 + 1 + 1 + 1 + 1 + 1 + 1) : Int))) (T.need (decide (s.I.toNat ≤ v.L.length)) (T.need (decide (t.I.toNat ≤ w.L.length)) (T.need (decide (u.I.toNat ≤ x.L.length)) (T.need (yes (List.length (List.take u.I.toNat x.L) < big ∧ (0 : Int) ≤ a.I ∧ a.I ≤ (↑(List.length (List.take u.I.toNat x.L)) : Int))) (T.ite (anyL stR (List.drop a.I.toNat (List.take u.I.toNat x.L))) (T.need (decide (c.I.toNat ≤ y.L.length ∧ c.I.toNat + List.length (List.take (List.length [[D.i (IntKind.wrap IntKind.i64 ((1 : Int) + f.I))]]) [[D.i (IntKind.wrap IntKind.i64 ((1 : Int) + f.I))]]) ≤ 2 ^ 62 ∧ (c.I.toNat + List.length (List.take (List.length [[D.i (IntKind.wrap IntKind.i64 ((1 : Int) + f.I))]]) [[D.i (IntKind.wrap IntKind.i64 ((1 : Int) + f.I))]])) * Try.prog.types[109].bytes ≤ 2 ^ 47)) (T.leaf (Rd.again [D.i 1, D.i a.I, D.i b.I, D.i (↑(c.I.toNat + List.length (List.take (List.length [[D.i (IntKind.wrap IntKind.i64 ((1 : Int) + f.I))]]) [[D.i (IntKind.wrap IntKind.i64 ((1 : Int) + f.I))]])) : Int), D.i (d.I.toNat : Int), D.i e.I, D.i (IntKind.wrap IntKind.i64 (f.I + (1 : Int))), D.i g.I, D.i h.I, D.i i.I, D.i j.I, D.i k.I, D.i l.I, D.b m.B, D.i n.I, D.b o.B, D.b p.B, D.i q.I, D.b r.B, D.i (s.I.toNat : Int), D.i (t.I.toNat : Int), D.i (u.I.toNat : Int), D.l v.L, D.l w.L, D.l x.L, D.l (List.take c.I.toNat y.L ++ List.take (List.length [[D.i (IntKind.wrap IntKind.i64 ((1 : Int) + f.I))]]) [[D.i (IntKind.wrap IntKind.i64 ((1 : Int) + f.I))]])]))) (T.leaf (Rd.again [D.i 1, D.i a.I, D.i b.I, D.i (c.I.toNat : Int), D.i (d.I.toNat : Int), D.i e.I, D.i (IntKind.wrap IntKind.i64 (f.I + (1 : Int))), D.i g.I, D.i h.I, D.i i.I, D.i j.I, D.i k.I, D.i l.I, D.b m.B, D.i n.I, D.b o.B, D.b p.B, D.i q.I, D.b r.B, D.i (s.I.toNat : Int), D.i (t.I.toNat : Int), D.i (u.I.toNat : Int), D.l v.L, D.l w.L, D.l x.L, D.l y.L])))))))))))))))) (T.leaf (Rd.out (Ex.exit 0) [D.i 1, D.i (c.I.toNat : Int), D.i g.I, D.i h.I, D.i i.I, D.i j.I, D.i k.I, D.i l.I, D.b m.B, D.i n.I, D.b o.B, D.b p.B, D.i q.I, D.b r.B, D.i (s.I.toNat : Int), D.i (t.I.toNat : Int), D.i (u.I.toNat : Int), D.l v.L, D.l w.L, D.l x.L, D.l y.L]))) := by kernel_rfl
end Go.Proofs.Ytgmefblkmidglaa
namespace Go.Proofs.Ytgmefblkmidglaa
open Go.Lite
set_option maxRecDepth 100000
set_option linter.unusedVariables false
set_option linter.unusedSimpArgs false
theorem roundTK_headG {C : Cfg} {tab : Tab} {f : FuncId} {b : Code} {k : Nat} {s : LSig} {j : D} {n : Int} {r : List D} (h : j.I = n) (hs : 2 ≤ s.head.length) : roundTK C tab f b k s (j :: r) = roundTK C tab f b k s (.i n :: r) := by
  obtain ⟨live, head, exits⟩ := s
  match head, hs with
  | a :: b :: c, _ => simp only [roundTK, roundTG, headL, headA, List.headD_cons, List.tail_cons, I_i, h]
theorem rulesF_step (R : Nat → Bool) {j : Nat} (hj : j < 8) (o : List (List D)) : rulesF R j (8 - j) o = rulesF R (j + 1) (8 - (j + 1)) (if R j then o ++ [[.i (1 + j)]] else o) := by
  obtain ⟨k, hk⟩ : ∃ k, 8 - j = k + 1 := ⟨7 - j, by omega⟩
  rw [hk, show 8 - (j + 1) = k by omega]
  rfl
theorem rulesF_some (R : Nat → Bool) : ∀ (k j : Nat) (o : List (List D)), o ≠ [] → (rulesF R j k o).isEmpty = false
  | 0, j, o, h => by cases o <;> first | exact absurd rfl h | rfl
  | k + 1, j, o, h => rulesF_some R k (j + 1) _ (by split <;> simp [h])
theorem ok40_8 (n : Nat) : LoopSimK C (n + 6) 4 40 (loopOf C.P 40 8) (mkLK 4 l40_8 G40_8) := by
  refine loop_ofK hC (sp := sp40) (lp := lp40) (sw := sw40) ⟨ok61 (n + 5), ok45 (n + 5), ok65 (n + 5), ok66 (n + 2), ok67 (n + 2), ok68 (n + 5), ok69 n, ok70 n, ok71 n, ok72 (n + 2), trivial⟩ trivial 4 [] (by kernel_rfl) rfl (fun k hk => by cases hk) (by kernel_rfl) (fun ds => if (ds.getD 0 default).I = 0 then 8 - (ds.getD 5 default).I.toNat else 8 - (ds.getD 6 default).I.toNat) fun ds rr h => ?_
  unfold G40_8 at h
  split at h
  · rename_i j car t m n i p0 p1 p2 p3 p4 p5 ov os oh cv cs ch nr np nc rd po ca
    obtain ⟨hp, h⟩ := need_some h
    rw [yes_iff] at hp
    obtain ⟨hj, ⟨⟨hPl, ⟨hr, hpo, hc⟩, ⟨l1, l2, l3⟩, hlo1, hlo2, hoc⟩, hos, hcs⟩, ht, hcar, hm8, hn8, hi0, hi1⟩ := hp
    have hb := big_eq
    have hPl' := hPl
    unfold okPl at hPl'
    obtain ⟨k, hk⟩ : ∃ k : Nat, i.I = k := ⟨i.I.toNat, by omega⟩
    have hm : (if ([j, car, t, m, n, i, p0, p1, p2, p3, p4, p5, ov, os, oh, cv, cs, ch, nr, np, nc, rd, po, ca].getD 0 default).I = 0 then 8 - ([j, car, t, m, n, i, p0, p1, p2, p3, p4, p5, ov, os, oh, cv, cs, ch, nr, np, nc, rd, po, ca].getD 5 default).I.toNat else 8 - ([j, car, t, m, n, i, p0, p1, p2, p3, p4, p5, ov, os, oh, cv, cs, ch, nr, np, nc, rd, po, ca].getD 6 default).I.toNat) = 8 - k := by
      show (if j.I = 0 then 8 - i.I.toNat else _) = _
      rw [if_pos hj, hk, Int.toNat_natCast]
    refine ⟨by rw [fuelC, hm]; omega, ?_⟩
    rw [roundTK_headG (j := j) (n := 0) hj (by decide), show (roundTK C (mkTab sp40 lp40 sw40) 40 (loopOf C.P 40 8) 4 l40_8 [.i 0, car, t, m, n, i, p0, p1, p2, p3, p4, p5, ov, os, oh, cv, cs, ch, nr, np, nc, rd, po, ca]).run = _ from t40_8_0 car t m n i p0 p1 p2 p3 p4 p5 ov os oh cv cs ch nr np nc rd po ca]
    have e8 : (((8 : Int).toNat : Nat) : Int) = 8 := rfl
    
    simp only [hr, hpo, hc, hm8, hn8, e8, Int.toNat_natCast, List.take_length] at h ⊢
    have hlr : rd.L.length < big := by omega
    have hlp : po.L.length < big := by omega
    have hlc : ca.L.length < big := by omega
    have lr := Nat.le_refl rd.L.length
    have lp := Nat.le_refl po.L.length
    have lc := Nat.le_refl ca.L.length
    refine rd_if (fun hlt => ?_) fun hge => rd_out ?_
    · have hk2 : k < 8 := by omega
      rw [hk, Int.toNat_natCast] at h
      rw [rulesF_step _ hk2] at h
      have hme : 8 - (k + 1) < 8 - k := by omega
      have done1 : (ruleB p0.I p1.I p2.I p3.I p4.I ov.B cv.B rd.L po.L ca.L car.I t.I) k = true → ∀ x y : D, x.I = ((k + 1 : Nat) : Int) → y = .i (1 + k) → (G40_8 [.i 1, .i car.I, .i t.I, .i 1, .i 8, .i 8, x, .i p0.I, .i p1.I, .i p2.I, .i p3.I, .i p4.I, .i p5.I, .b ov.B, .i os.I, .b oh.B, .b cv.B, .i cs.I, .b ch.B, .i rd.L.length, .i po.L.length, .i ca.L.length, .l rd.L, .l po.L, .l ca.L, .l [[y]]]).run = some rr := fun hR x y hx hy => by
        subst hy
        refine (need_yes ⟨rfl, ⟨⟨hPl, ⟨rfl, rfl, rfl⟩, ⟨l1, l2, l3⟩, hlo1, hlo2, hoc⟩, hos, hcs⟩, ht, hcar, rfl, rfl, ⟨by omega, by omega⟩, rfl, by rw [hx]; simp only [L_l, List.length_singleton]; omega⟩).trans ?_
        rw [← h, hR, if_pos rfl, run_ite, if_neg (by rw [rulesF_some _ _ _ _ (by simp)]; exact Bool.false_ne_true)]
        simp only [hx, Int.toNat_natCast]
        rfl
      have done0 : (ruleB p0.I p1.I p2.I p3.I p4.I ov.B cv.B rd.L po.L ca.L car.I t.I) k = false → ∀ x : D, x.I = ((k + 1 : Nat) : Int) → (G40_8 [.i 0, .i car.I, .i t.I, .i 8, .i 8, x, .i p0.I, .i p1.I, .i p2.I, .i p3.I, .i p4.I, .i p5.I, .b ov.B, .i os.I, .b oh.B, .b cv.B, .i cs.I, .b ch.B, .i rd.L.length, .i po.L.length, .i ca.L.length, .l rd.L, .l po.L, .l ca.L]).run = some rr := fun hR x hx => by
        refine (need_yes ⟨rfl, ⟨⟨hPl, ⟨rfl, rfl, rfl⟩, ⟨l1, l2, l3⟩, hlo1, hlo2, hoc⟩, hos, hcs⟩, ht, hcar, rfl, rfl, by omega, by omega⟩).trans ?_
        rw [← h, hR, if_neg Bool.false_ne_true]
        simp only [hx, Int.toNat_natCast]
        rfl
      have m1 : ∀ x y : D, x.I = ((k + 1 : Nat) : Int) → (if ([.i 1, .i car.I, .i t.I, .i 1, .i 8, .i 8, x, .i p0.I, .i p1.I, .i p2.I, .i p3.I, .i p4.I, .i p5.I, .b ov.B, .i os.I, .b oh.B, .b cv.B, .i cs.I, .b ch.B, .i rd.L.length, .i po.L.length, .i ca.L.length, .l rd.L, .l po.L, .l ca.L, .l [[y]]].getD 0 default : D).I = 0 then 8 - ([.i 1, .i car.I, .i t.I, .i 1, .i 8, .i 8, x, .i p0.I, .i p1.I, .i p2.I, .i p3.I, .i p4.I, .i p5.I, .b ov.B, .i os.I, .b oh.B, .b cv.B, .i cs.I, .b ch.B, .i rd.L.length, .i po.L.length, .i ca.L.length, .l rd.L, .l po.L, .l ca.L, .l [[y]]].getD 5 default : D).I.toNat else 8 - ([.i 1, .i car.I, .i t.I, .i 1, .i 8, .i 8, x, .i p0.I, .i p1.I, .i p2.I, .i p3.I, .i p4.I, .i p5.I, .b ov.B, .i os.I, .b oh.B, .b cv.B, .i cs.I, .b ch.B, .i rd.L.length, .i po.L.length, .i ca.L.length, .l rd.L, .l po.L, .l ca.L, .l [[y]]].getD 6 default : D).I.toNat) < (if ([j, car, t, m, n, i, p0, p1, p2, p3, p4, p5, ov, os, oh, cv, cs, ch, nr, np, nc, rd, po, ca].getD 0 default).I = 0 then 8 - ([j, car, t, m, n, i, p0, p1, p2, p3, p4, p5, ov, os, oh, cv, cs, ch, nr, np, nc, rd, po, ca].getD 5 default).I.toNat else 8 - ([j, car, t, m, n, i, p0, p1, p2, p3, p4, p5, ov, os, oh, cv, cs, ch, nr, np, nc, rd, po, ca].getD 6 default).I.toNat) := fun x y hx => by
        rw [hm]
        show (if (1 : Int) = 0 then _ else 8 - x.I.toNat) < _
        rw [if_neg (by decide), hx, Int.toNat_natCast]
        exact hme
      have m0 : ∀ x : D, x.I = ((k + 1 : Nat) : Int) → (if ([.i 0, .i car.I, .i t.I, .i 8, .i 8, x, .i p0.I, .i p1.I, .i p2.I, .i p3.I, .i p4.I, .i p5.I, .b ov.B, .i os.I, .b oh.B, .b cv.B, .i cs.I, .b ch.B, .i rd.L.length, .i po.L.length, .i ca.L.length, .l rd.L, .l po.L, .l ca.L].getD 0 default : D).I = 0 then 8 - ([.i 0, .i car.I, .i t.I, .i 8, .i 8, x, .i p0.I, .i p1.I, .i p2.I, .i p3.I, .i p4.I, .i p5.I, .b ov.B, .i os.I, .b oh.B, .b cv.B, .i cs.I, .b ch.B, .i rd.L.length, .i po.L.length, .i ca.L.length, .l rd.L, .l po.L, .l ca.L].getD 5 default : D).I.toNat else 8 - ([.i 0, .i car.I, .i t.I, .i 8, .i 8, x, .i p0.I, .i p1.I, .i p2.I, .i p3.I, .i p4.I, .i p5.I, .b ov.B, .i os.I, .b oh.B, .b cv.B, .i cs.I, .b ch.B, .i rd.L.length, .i po.L.length, .i ca.L.length, .l rd.L, .l po.L, .l ca.L].getD 6 default : D).I.toNat) < (if ([j, car, t, m, n, i, p0, p1, p2, p3, p4, p5, ov, os, oh, cv, cs, ch, nr, np, nc, rd, po, ca].getD 0 default).I = 0 then 8 - ([j, car, t, m, n, i, p0, p1, p2, p3, p4, p5, ov, os, oh, cv, cs, ch, nr, np, nc, rd, po, ca].getD 5 default).I.toNat else 8 - ([j, car, t, m, n, i, p0, p1, p2, p3, p4, p5, ov, os, oh, cv, cs, ch, nr, np, nc, rd, po, ca].getD 6 default).I.toNat) := fun x hx => by
        rw [hm]
        show (if (0 : Int) = 0 then 8 - x.I.toNat else _) < _
        rw [if_pos rfl, hx, Int.toNat_natCast]
        exact hme
      refine rd_dec (by omega) ?_
      have hks : k = 0 ∨ k = 1 ∨ k = 2 ∨ k = 3 ∨ k = 4 ∨ k = 5 ∨ k = 6 ∨ k = 7 := by omega
      rcases hks with rfl | rfl | rfl | rfl | rfl | rfl | rfl | rfl <;> rw [hk]
      · have ws : IntKind.i64.wrap (((0 : Nat) : Int) + 1) = ((0 + 1 : Nat) : Int) := by rw [wrap_id (by omega) (by omega)]; rfl
        have wr : IntKind.i64.wrap (1 + ((0 : Nat) : Int)) = 1 + ((0 : Nat) : Int) := wrap_id (by omega) (by omega)
        exact rd_pos (by decide) (rd_dec lr (rd_dec lp (rd_dec lc (rd_not (fun c => rd_again (done1 (show (!_) = true by rw [c]; rfl) (.i _) (.i _) ws (congrArg D.i wr)) (m1 (.i _) (.i _) ws)) fun c => rd_again (done0 (show (!_) = false by rw [c]; rfl) (.i _) ws) (m0 (.i _) ws)))))
      · have ws : IntKind.i64.wrap (((1 : Nat) : Int) + 1) = ((1 + 1 : Nat) : Int) := by rw [wrap_id (by omega) (by omega)]; rfl
        have wr : IntKind.i64.wrap (1 + ((1 : Nat) : Int)) = 1 + ((1 : Nat) : Int) := wrap_id (by omega) (by omega)
        exact rd_neg (by decide) (rd_pos (by decide) (rd_dec lr (rd_dec lp (rd_dec lc (rd_yes hlr (rd_ite (fun c => rd_again (done1 c (.i _) (.i _) ws (congrArg D.i wr)) (m1 (.i _) (.i _) ws)) fun c => rd_again (done0 c (.i _) ws) (m0 (.i _) ws)))))))
      · have ws : IntKind.i64.wrap (((2 : Nat) : Int) + 1) = ((2 + 1 : Nat) : Int) := by rw [wrap_id (by omega) (by omega)]; rfl
        have wr : IntKind.i64.wrap (1 + ((2 : Nat) : Int)) = 1 + ((2 : Nat) : Int) := wrap_id (by omega) (by omega)
        exact rd_neg (by decide) (rd_neg (by decide) (rd_pos (by decide) (rd_dec lr (rd_dec lp (rd_dec lc (rd_yes ⟨hlp, hlo2, ht⟩ (rd_ite (fun c => rd_again (done1 c (.i _) (.i _) ws (congrArg D.i wr)) (m1 (.i _) (.i _) ws)) fun c => rd_again (done0 c (.i _) ws) (m0 (.i _) ws))))))))
      · have ws : IntKind.i64.wrap (((3 : Nat) : Int) + 1) = ((3 + 1 : Nat) : Int) := by rw [wrap_id (by omega) (by omega)]; rfl
        have wr : IntKind.i64.wrap (1 + ((3 : Nat) : Int)) = 1 + ((3 : Nat) : Int) := wrap_id (by omega) (by omega)
        exact rd_neg (by decide) (rd_neg (by decide) (rd_neg (by decide) (rd_pos (by decide) (rd_dec lr (rd_dec lp (rd_dec lc (rd_not (fun c => rd_again (done1 (show (!_) = true by rw [c]; rfl) (.i _) (.i _) ws (congrArg D.i wr)) (m1 (.i _) (.i _) ws)) fun c => rd_again (done0 (show (!_) = false by rw [c]; rfl) (.i _) ws) (m0 (.i _) ws))))))))
      · have ws : IntKind.i64.wrap (((4 : Nat) : Int) + 1) = ((4 + 1 : Nat) : Int) := by rw [wrap_id (by omega) (by omega)]; rfl
        have wr : IntKind.i64.wrap (1 + ((4 : Nat) : Int)) = 1 + ((4 : Nat) : Int) := wrap_id (by omega) (by omega)
        exact rd_neg (by decide) (rd_neg (by decide) (rd_neg (by decide) (rd_neg (by decide) (rd_pos (by decide) (rd_dec lr (rd_dec lp (rd_dec lc (rd_yes ⟨hPl, hlc⟩ (rd_ite (fun c => rd_again (done1 c (.i _) (.i _) ws (congrArg D.i wr)) (m1 (.i _) (.i _) ws)) fun c => rd_again (done0 c (.i _) ws) (m0 (.i _) ws))))))))))
      · have ws : IntKind.i64.wrap (((5 : Nat) : Int) + 1) = ((5 + 1 : Nat) : Int) := by rw [wrap_id (by omega) (by omega)]; rfl
        have wr : IntKind.i64.wrap (1 + ((5 : Nat) : Int)) = 1 + ((5 : Nat) : Int) := wrap_id (by omega) (by omega)
        exact rd_neg (by decide) (rd_neg (by decide) (rd_neg (by decide) (rd_neg (by decide) (rd_neg (by decide) (rd_pos (by decide) (rd_dec lr (rd_dec lp (rd_dec lc (rd_yes ⟨hPl, hlc, hoc, ht⟩ (rd_ite (fun c => rd_again (done1 c (.i _) (.i _) ws (congrArg D.i wr)) (m1 (.i _) (.i _) ws)) fun c => rd_again (done0 c (.i _) ws) (m0 (.i _) ws)))))))))))
      · have ws : IntKind.i64.wrap (((6 : Nat) : Int) + 1) = ((6 + 1 : Nat) : Int) := by rw [wrap_id (by omega) (by omega)]; rfl
        have wr : IntKind.i64.wrap (1 + ((6 : Nat) : Int)) = 1 + ((6 : Nat) : Int) := wrap_id (by omega) (by omega)
        exact rd_neg (by decide) (rd_neg (by decide) (rd_neg (by decide) (rd_neg (by decide) (rd_neg (by decide) (rd_neg (by decide) (rd_pos (by decide) (rd_dec lr (rd_dec lp (rd_dec lc (rd_yes ⟨hPl, hlc, hoc, ht⟩ (rd_ite (fun c => rd_again (done1 c (.i _) (.i _) ws (congrArg D.i wr)) (m1 (.i _) (.i _) ws)) fun c => rd_again (done0 c (.i _) ws) (m0 (.i _) ws))))))))))))
      · have ws : IntKind.i64.wrap (((7 : Nat) : Int) + 1) = ((7 + 1 : Nat) : Int) := by rw [wrap_id (by omega) (by omega)]; rfl
        have wr : IntKind.i64.wrap (1 + ((7 : Nat) : Int)) = 1 + ((7 : Nat) : Int) := wrap_id (by omega) (by omega)
        exact rd_neg (by decide) (rd_neg (by decide) (rd_neg (by decide) (rd_neg (by decide) (rd_neg (by decide) (rd_neg (by decide) (rd_neg (by decide) (rd_dec (by decide) (rd_dec lr (rd_dec lp (rd_dec lc (rd_yes ⟨hlc, hcar⟩ (rd_ite (fun c => rd_again (done1 c (.i _) (.i _) ws (congrArg D.i wr)) (m1 (.i _) (.i _) ws)) fun c => rd_again (done0 c (.i _) ws) (m0 (.i _) ws)))))))))))))
    · rw [hk, Int.toNat_natCast, show 8 - k = 0 by omega] at h
      rw [← h]
      rfl
  · rename_i j car t q m n i p0 p1 p2 p3 p4 p5 ov os oh cv cs ch nr np nc rd po ca o
    obtain ⟨hp, h⟩ := need_some h
    rw [yes_iff] at hp
    obtain ⟨hj, ⟨⟨hPl, ⟨hr, hpo, hc⟩, ⟨l1, l2, l3⟩, hlo1, hlo2, hoc⟩, hos, hcs⟩, ht, hcar, hm8, hn8, ⟨hi0, hi1⟩, hq, hol⟩ := hp
    have hb := big_eq
    have hPl' := hPl
    unfold okPl at hPl'
    obtain ⟨k, hk⟩ : ∃ k : Nat, i.I = k := ⟨i.I.toNat, by omega⟩
    have hm : (if ([j, car, t, q, m, n, i, p0, p1, p2, p3, p4, p5, ov, os, oh, cv, cs, ch, nr, np, nc, rd, po, ca, o].getD 0 default).I = 0 then 8 - ([j, car, t, q, m, n, i, p0, p1, p2, p3, p4, p5, ov, os, oh, cv, cs, ch, nr, np, nc, rd, po, ca, o].getD 5 default).I.toNat else 8 - ([j, car, t, q, m, n, i, p0, p1, p2, p3, p4, p5, ov, os, oh, cv, cs, ch, nr, np, nc, rd, po, ca, o].getD 6 default).I.toNat) = 8 - k := by
      show (if j.I = 0 then _ else 8 - i.I.toNat) = _
      rw [if_neg (by omega), hk, Int.toNat_natCast]
    refine ⟨by rw [fuelC, hm]; omega, ?_⟩
    rw [roundTK_headG (j := j) (n := 1) hj (by decide), show (roundTK C (mkTab sp40 lp40 sw40) 40 (loopOf C.P 40 8) 4 l40_8 [.i 1, car, t, q, m, n, i, p0, p1, p2, p3, p4, p5, ov, os, oh, cv, cs, ch, nr, np, nc, rd, po, ca, o]).run = _ from t40_8_1 car t q m n i p0 p1 p2 p3 p4 p5 ov os oh cv cs ch nr np nc rd po ca o]
    have e8 : (((8 : Int).toNat : Nat) : Int) = 8 := rfl
    have eb : Try.prog.types[109].bytes = 8 := by kernel_rfl
    simp only [hr, hpo, hc, hm8, hn8, hq, eb, e8, Int.toNat_natCast, List.take_length, List.length_singleton] at h ⊢
    have hlr : rd.L.length < big := by omega
    have hlp : po.L.length < big := by omega
    have hlc : ca.L.length < big := by omega
    have lr := Nat.le_refl rd.L.length
    have lp := Nat.le_refl po.L.length
    have lc := Nat.le_refl ca.L.length
    refine rd_if (fun hlt => ?_) fun hge => rd_out ?_
    · have hk2 : k < 8 := by omega
      rw [hk, Int.toNat_natCast] at h
      rw [rulesF_step _ hk2] at h
      have hme : 8 - (k + 1) < 8 - k := by omega
      have done1 : (ruleB p0.I p1.I p2.I p3.I p4.I ov.B cv.B rd.L po.L ca.L car.I t.I) k = true → ∀ x y : D, x.I = ((k + 1 : Nat) : Int) → y = .i (1 + k) → (G40_8 [.i 1, .i car.I, .i t.I, .i ((o.L.length + 1 : Nat) : Int), .i 8, .i 8, x, .i p0.I, .i p1.I, .i p2.I, .i p3.I, .i p4.I, .i p5.I, .b ov.B, .i os.I, .b oh.B, .b cv.B, .i cs.I, .b ch.B, .i rd.L.length, .i po.L.length, .i ca.L.length, .l rd.L, .l po.L, .l ca.L, .l (o.L ++ [[y]])]).run = some rr := fun hR x y hx hy => by
        subst hy
        refine (need_yes ⟨rfl, ⟨⟨hPl, ⟨rfl, rfl, rfl⟩, ⟨l1, l2, l3⟩, hlo1, hlo2, hoc⟩, hos, hcs⟩, ht, hcar, rfl, rfl, ⟨by omega, by omega⟩, by simp only [I_i, L_l, List.length_append, List.length_singleton], by rw [hx]; simp only [L_l, List.length_append, List.length_singleton]; omega⟩).trans ?_
        rw [← h, hR, if_pos rfl]
        simp only [hx, Int.toNat_natCast]
        rfl
      have done0 : (ruleB p0.I p1.I p2.I p3.I p4.I ov.B cv.B rd.L po.L ca.L car.I t.I) k = false → ∀ x : D, x.I = ((k + 1 : Nat) : Int) → (G40_8 [.i 1, .i car.I, .i t.I, .i o.L.length, .i 8, .i 8, x, .i p0.I, .i p1.I, .i p2.I, .i p3.I, .i p4.I, .i p5.I, .b ov.B, .i os.I, .b oh.B, .b cv.B, .i cs.I, .b ch.B, .i rd.L.length, .i po.L.length, .i ca.L.length, .l rd.L, .l po.L, .l ca.L, .l o.L]).run = some rr := fun hR x hx => by
        refine (need_yes ⟨rfl, ⟨⟨hPl, ⟨rfl, rfl, rfl⟩, ⟨l1, l2, l3⟩, hlo1, hlo2, hoc⟩, hos, hcs⟩, ht, hcar, rfl, rfl, ⟨by omega, by omega⟩, rfl, by rw [hx]; simp only [L_l]; omega⟩).trans ?_
        rw [← h, hR, if_neg Bool.false_ne_true]
        simp only [hx, Int.toNat_natCast]
        rfl
      have m1 : ∀ x y z w : D, x.I = ((k + 1 : Nat) : Int) → (if ([.i 1, .i car.I, .i t.I, z, .i 8, .i 8, x, .i p0.I, .i p1.I, .i p2.I, .i p3.I, .i p4.I, .i p5.I, .b ov.B, .i os.I, .b oh.B, .b cv.B, .i cs.I, .b ch.B, .i rd.L.length, .i po.L.length, .i ca.L.length, .l rd.L, .l po.L, .l ca.L, w].getD 0 default : D).I = 0 then 8 - ([.i 1, .i car.I, .i t.I, z, .i 8, .i 8, x, .i p0.I, .i p1.I, .i p2.I, .i p3.I, .i p4.I, .i p5.I, .b ov.B, .i os.I, .b oh.B, .b cv.B, .i cs.I, .b ch.B, .i rd.L.length, .i po.L.length, .i ca.L.length, .l rd.L, .l po.L, .l ca.L, w].getD 5 default : D).I.toNat else 8 - ([.i 1, .i car.I, .i t.I, z, .i 8, .i 8, x, .i p0.I, .i p1.I, .i p2.I, .i p3.I, .i p4.I, .i p5.I, .b ov.B, .i os.I, .b oh.B, .b cv.B, .i cs.I, .b ch.B, .i rd.L.length, .i po.L.length, .i ca.L.length, .l rd.L, .l po.L, .l ca.L, w].getD 6 default : D).I.toNat) < (if ([j, car, t, q, m, n, i, p0, p1, p2, p3, p4, p5, ov, os, oh, cv, cs, ch, nr, np, nc, rd, po, ca, o].getD 0 default).I = 0 then 8 - ([j, car, t, q, m, n, i, p0, p1, p2, p3, p4, p5, ov, os, oh, cv, cs, ch, nr, np, nc, rd, po, ca, o].getD 5 default).I.toNat else 8 - ([j, car, t, q, m, n, i, p0, p1, p2, p3, p4, p5, ov, os, oh, cv, cs, ch, nr, np, nc, rd, po, ca, o].getD 6 default).I.toNat) := fun x y z w hx => by
        rw [hm]
        show (if (1 : Int) = 0 then _ else 8 - x.I.toNat) < _
        rw [if_neg (by decide), hx, Int.toNat_natCast]
        exact hme
      have hroom : o.L.length ≤ o.L.length ∧ o.L.length + 1 ≤ 2 ^ 62 ∧ (o.L.length + 1) * 8 ≤ 2 ^ 47 := by omega
      refine rd_dec (by omega) ?_
      have hks : k = 0 ∨ k = 1 ∨ k = 2 ∨ k = 3 ∨ k = 4 ∨ k = 5 ∨ k = 6 ∨ k = 7 := by omega
      rcases hks with rfl | rfl | rfl | rfl | rfl | rfl | rfl | rfl <;> rw [hk]
      · have ws : IntKind.i64.wrap (((0 : Nat) : Int) + 1) = ((0 + 1 : Nat) : Int) := by rw [wrap_id (by omega) (by omega)]; rfl
        have wr : IntKind.i64.wrap (1 + ((0 : Nat) : Int)) = 1 + ((0 : Nat) : Int) := wrap_id (by omega) (by omega)
        exact rd_pos (by decide) (rd_dec lr (rd_dec lp (rd_dec lc (rd_not (fun c => rd_dec hroom (rd_again (done1 (show (!_) = true by rw [c]; rfl) (.i _) (.i _) ws (congrArg D.i wr)) (m1 (.i _) (.i 0) (.i _) (.l _) ws))) fun c => rd_again (done0 (show (!_) = false by rw [c]; rfl) (.i _) ws) (m1 (.i _) (.i 0) (.i _) (.l _) ws)))))
      · have ws : IntKind.i64.wrap (((1 : Nat) : Int) + 1) = ((1 + 1 : Nat) : Int) := by rw [wrap_id (by omega) (by omega)]; rfl
        have wr : IntKind.i64.wrap (1 + ((1 : Nat) : Int)) = 1 + ((1 : Nat) : Int) := wrap_id (by omega) (by omega)
        exact rd_neg (by decide) (rd_pos (by decide) (rd_dec lr (rd_dec lp (rd_dec lc (rd_yes hlr (rd_ite (fun c => rd_dec hroom (rd_again (done1 c (.i _) (.i _) ws (congrArg D.i wr)) (m1 (.i _) (.i 0) (.i _) (.l _) ws))) fun c => rd_again (done0 c (.i _) ws) (m1 (.i _) (.i 0) (.i _) (.l _) ws)))))))
      · have ws : IntKind.i64.wrap (((2 : Nat) : Int) + 1) = ((2 + 1 : Nat) : Int) := by rw [wrap_id (by omega) (by omega)]; rfl
        have wr : IntKind.i64.wrap (1 + ((2 : Nat) : Int)) = 1 + ((2 : Nat) : Int) := wrap_id (by omega) (by omega)
        exact rd_neg (by decide) (rd_neg (by decide) (rd_pos (by decide) (rd_dec lr (rd_dec lp (rd_dec lc (rd_yes ⟨hlp, hlo2, ht⟩ (rd_ite (fun c => rd_dec hroom (rd_again (done1 c (.i _) (.i _) ws (congrArg D.i wr)) (m1 (.i _) (.i 0) (.i _) (.l _) ws))) fun c => rd_again (done0 c (.i _) ws) (m1 (.i _) (.i 0) (.i _) (.l _) ws))))))))
      · have ws : IntKind.i64.wrap (((3 : Nat) : Int) + 1) = ((3 + 1 : Nat) : Int) := by rw [wrap_id (by omega) (by omega)]; rfl
        have wr : IntKind.i64.wrap (1 + ((3 : Nat) : Int)) = 1 + ((3 : Nat) : Int) := wrap_id (by omega) (by omega)
        exact rd_neg (by decide) (rd_neg (by decide) (rd_neg (by decide) (rd_pos (by decide) (rd_dec lr (rd_dec lp (rd_dec lc (rd_not (fun c => rd_dec hroom (rd_again (done1 (show (!_) = true by rw [c]; rfl) (.i _) (.i _) ws (congrArg D.i wr)) (m1 (.i _) (.i 0) (.i _) (.l _) ws))) fun c => rd_again (done0 (show (!_) = false by rw [c]; rfl) (.i _) ws) (m1 (.i _) (.i 0) (.i _) (.l _) ws))))))))
      · have ws : IntKind.i64.wrap (((4 : Nat) : Int) + 1) = ((4 + 1 : Nat) : Int) := by rw [wrap_id (by omega) (by omega)]; rfl
        have wr : IntKind.i64.wrap (1 + ((4 : Nat) : Int)) = 1 + ((4 : Nat) : Int) := wrap_id (by omega) (by omega)
        exact rd_neg (by decide) (rd_neg (by decide) (rd_neg (by decide) (rd_neg (by decide) (rd_pos (by decide) (rd_dec lr (rd_dec lp (rd_dec lc (rd_yes ⟨hPl, hlc⟩ (rd_ite (fun c => rd_dec hroom (rd_again (done1 c (.i _) (.i _) ws (congrArg D.i wr)) (m1 (.i _) (.i 0) (.i _) (.l _) ws))) fun c => rd_again (done0 c (.i _) ws) (m1 (.i _) (.i 0) (.i _) (.l _) ws))))))))))
      · have ws : IntKind.i64.wrap (((5 : Nat) : Int) + 1) = ((5 + 1 : Nat) : Int) := by rw [wrap_id (by omega) (by omega)]; rfl
        have wr : IntKind.i64.wrap (1 + ((5 : Nat) : Int)) = 1 + ((5 : Nat) : Int) := wrap_id (by omega) (by omega)
        exact rd_neg (by decide) (rd_neg (by decide) (rd_neg (by decide) (rd_neg (by decide) (rd_neg (by decide) (rd_pos (by decide) (rd_dec lr (rd_dec lp (rd_dec lc (rd_yes ⟨hPl, hlc, hoc, ht⟩ (rd_ite (fun c => rd_dec hroom (rd_again (done1 c (.i _) (.i _) ws (congrArg D.i wr)) (m1 (.i _) (.i 0) (.i _) (.l _) ws))) fun c => rd_again (done0 c (.i _) ws) (m1 (.i _) (.i 0) (.i _) (.l _) ws)))))))))))
      · have ws : IntKind.i64.wrap (((6 : Nat) : Int) + 1) = ((6 + 1 : Nat) : Int) := by rw [wrap_id (by omega) (by omega)]; rfl
        have wr : IntKind.i64.wrap (1 + ((6 : Nat) : Int)) = 1 + ((6 : Nat) : Int) := wrap_id (by omega) (by omega)
        exact rd_neg (by decide) (rd_neg (by decide) (rd_neg (by decide) (rd_neg (by decide) (rd_neg (by decide) (rd_neg (by decide) (rd_pos (by decide) (rd_dec lr (rd_dec lp (rd_dec lc (rd_yes ⟨hPl, hlc, hoc, ht⟩ (rd_ite (fun c => rd_dec hroom (rd_again (done1 c (.i _) (.i _) ws (congrArg D.i wr)) (m1 (.i _) (.i 0) (.i _) (.l _) ws))) fun c => rd_again (done0 c (.i _) ws) (m1 (.i _) (.i 0) (.i _) (.l _) ws))))))))))))
      · have ws : IntKind.i64.wrap (((7 : Nat) : Int) + 1) = ((7 + 1 : Nat) : Int) := by rw [wrap_id (by omega) (by omega)]; rfl
        have wr : IntKind.i64.wrap (1 + ((7 : Nat) : Int)) = 1 + ((7 : Nat) : Int) := wrap_id (by omega) (by omega)
        exact rd_neg (by decide) (rd_neg (by decide) (rd_neg (by decide) (rd_neg (by decide) (rd_neg (by decide) (rd_neg (by decide) (rd_neg (by decide) (rd_dec (by decide) (rd_dec lr (rd_dec lp (rd_dec lc (rd_yes ⟨hlc, hcar⟩ (rd_ite (fun c => rd_dec hroom (rd_again (done1 c (.i _) (.i _) ws (congrArg D.i wr)) (m1 (.i _) (.i 0) (.i _) (.l _) ws))) fun c => rd_again (done0 c (.i _) ws) (m1 (.i _) (.i 0) (.i _) (.l _) ws)))))))))))))
    · rw [hk, Int.toNat_natCast, show 8 - k = 0 by omega] at h
      rw [← h]
      rfl
  · cases h
theorem ok40 (n : Nat) : FnOKW C (n + 7) 40 (mkFW s40 G40) := by
  refine fn_ofW hC (sp := sp40) (lp := lp40) (sw := sw40) ⟨ok61 (n + 5), ok45 (n + 5), ok65 (n + 5), ok66 (n + 2), ok67 (n + 2), ok68 (n + 5), ok69 n, ok70 n, ok71 n, ok72 (n + 2), trivial⟩ trivial (by kernel_rfl) [8] (by kernel_rfl) (by kernel_rfl) (fun k hk L hL => by simp at hk; subst hk; cases hL; exact ok40_8 n) fun ds r hh => ?_
  unfold G40 at hh
  split at hh
  · rename_i car t p0 p1 p2 p3 p4 p5 ov os oh cv cs ch nr np nc rd po ca
    obtain ⟨hp, hh⟩ := need_some hh
    rw [yes_iff] at hp
    obtain ⟨⟨hPl, ⟨hr, hpo, hc⟩, ⟨l1, l2, l3⟩, hlo1, hlo2, hoc⟩, hos, hcs⟩ := hp
    have hPl' := hPl
    unfold okPl at hPl'
    refine (t40 car t p0 p1 p2 p3 p4 p5 ov os oh cv cs ch nr np nc rd po ca).trans ?_
    rw [← hh]
    have e5 : IntKind.i64.wrap (p5.I - 1) = p5.I - 1 := wrap_id (by omega) (by omega)
    have z0 : (0 : Int).toNat = 0 := rfl
    simp only [hr, hpo, hc, e5, z0, Int.toNat_natCast, List.take_length, Nat.sub_zero]
    refine go_dec (Nat.le_refl _) (go_dec (Nat.le_refl _) (go_dec (Nat.le_refl _) (go_notT (decide_eq_true (by omega)) (go_not (fun c => ?_) fun c1 => go_not (fun c => ?_) fun c2 => ?_))))
    · have : validB p5.I car.I t.I = false := decide_eq_false fun h' => by
        rw [within_dec, decide_eq_true h'.1] at c; cases c
      rw [this]
      rfl
    · have : validB p5.I car.I t.I = false := decide_eq_false fun h' => by
        rw [within_dec, decide_eq_true h'.2] at c; cases c
      rw [this]
      rfl
    · have h1 := of_decide_eq_true (within_dec.symm.trans c1)
      have h2 := of_decide_eq_true (within_dec.symm.trans c2)
      have : validB p5.I car.I t.I = true := decide_eq_true ⟨h1, h2⟩
      rw [this]
      refine go_yes ?_ rfl
      refine ⟨?_, ⟨⟨hPl, ?_, ⟨l1, l2, l3⟩, hlo1, hlo2, hoc⟩, hos, hcs⟩, h2, ⟨h1.1, by omega⟩, ?_, ?_, ?_, ?_⟩
      all_goals first
        | trivial
        | exact ⟨trivial, trivial, trivial⟩
        | decide
  · cases hh
theorem ok39 (n : Nat) : FnOKW C (n + 8) 39 (mkFW s39 G39) := by
  refine fn_ofW hC (sp := sp39) (lp := lp39) (sw := sw39) trivial ⟨ok40 n, trivial⟩ (by kernel_rfl) [] (by kernel_rfl) rfl (fun k hk => by cases hk) fun ds r hh => ?_
  unfold G39 at hh
  split at hh
  · rename_i car t p0 p1 p2 p3 p4 p5 ov os oh cv cs ch nr np nc rd po ca
    obtain ⟨hp, hh⟩ := need_some hh
    rw [yes_iff] at hp
    have hp0 := hp
    obtain ⟨⟨hPl, ⟨hr, hpo, hc⟩, ⟨l1, l2, l3⟩, hlo1, hlo2, hoc⟩, hos, hcs⟩ := hp
    have hPl' := hPl
    unfold okPl at hPl'
    refine (t39 car t p0 p1 p2 p3 p4 p5 ov os oh cv cs ch nr np nc rd po ca).trans ?_
    rw [← hh]
    rw [hr, hpo, hc] at hp0
    simp only [hr, hpo, hc, Int.toNat_natCast]
    refine go_yes hp0 (go_ite (fun c => ?_) fun c => ?_)
    · rw [c]
      have hv := of_decide_eq_true c
      have ht : car.I.toNat < ca.L.length := by omega
      refine go_ite (fun c1 => ?_) fun c1 => ?_
      · rw [c1]
        refine go_dec ⟨hv.1.1, by omega⟩ (go_dec ht (go_dec ⟨hv.1.1, by omega⟩ (go_dec (by rw [List.length_set]; exact ht) ?_)))
        have e1 : ∀ c : List D, updC c [.b true] (0 + 0) 0 (List.length [K.bool, K.int .i64, K.int .i64, K.bool, K.bool]) = [.b true, c.getD 1 default, c.getD 2 default, c.getD 3 default, c.getD 4 default] := fun c => by simp [updC]
        have e2 : ∀ c : List D, updC c [.i t.I] (0 + 1) 0 (List.length [K.bool, K.int .i64, K.int .i64, K.bool, K.bool]) = [c.getD 0 default, .i t.I, c.getD 2 default, c.getD 3 default, c.getD 4 default] := fun c => by simp [updC]
        have e3 : ∀ x : List D, (ca.L.set car.I.toNat x).getD car.I.toNat [] = x := fun x => by simp [List.getD_eq_getElem?_getD, List.getElem?_set_self ht]
        rw [e1, e3, e2, List.set_set]
        rfl
      · rw [c1]
        refine go_if (fun c2 => rfl) fun c2 => ?_
        exfalso
        generalize rulesF _ 0 8 [] = l at c1 c2
        cases l
        · cases c1
        · simp only [List.length_cons] at c2; omega
    · rw [c]
      rfl
  · cases hh
end Go.Proofs.Ytgmefblkmidglaa
namespace Go.Proofs.Ytgmefblkmidglaa
open Go.Lite
set_option linter.unusedVariables false
theorem FnOKW_mono {C : Cfg} {n : Nat} {f : FuncId} {F F' : List SV → SHeap → T (SV × SHeap)} (h : FnOKW C n f F) (hF : ∀ args h v hb, (F' args h).run = some (v, hb) → (F args h).run = some (v, hb)) : FnOKW C n f F' := fun args h0 v hb hv => h args h0 v hb (hF _ _ _ _ hv)
theorem mkFW_mono {s : SigW} {G G' : List D → T (List D)} (h : ∀ ds r, (G' ds).run = some r → (G ds).run = some r) (args : List SV) (h0 : SHeap) (v : SV) (hb : SHeap) (hv : (mkFW s G' args h0).run = some (v, hb)) : (mkFW s G args h0).run = some (v, hb) := by
  unfold mkFW at hv ⊢
  split
  · rename_i a b e1 e2
    rw [e1, e2] at hv
    simp only [T.run_map, Option.map_eq_some_iff] at hv ⊢
    obtain ⟨r, h1, h2⟩ := hv
    exact ⟨r, h _ _ h1, h2⟩
  · rename_i e
    split at hv
    · rename_i a b e1 e2
      exact absurd e2 (fun _ => e _ _ e1 e2)
    · exact hv
theorem ok38x (n : Nat) : FnOKW C (n + 3) 38 (mkFW s38 G38x) := FnOKW_mono (ok38 n) (mkFW_mono fun ds r h => by
  unfold G38x at h
  split at h
  · rename_i k s p c p0 p1 p2 p3 p4 p5 ov os oh cv cs ch nr np nc rd po ca
    obtain ⟨hp, h⟩ := need_some h
    rw [yes_iff] at hp
    refine (need_yes ⟨hp.okg, hp.oko, hp.okc⟩).trans ?_
    rw [← h]
    unfold hearE
    cases evB p0.I p5.I k.I s.I p.I c.I <;> rfl
  · cases h)
theorem start_ca {p0 p1 p2 p3 p4 p5 car t : Int} {g : GS} : (startE p0 p1 p2 p3 p4 p5 car t g).ca = if validB p5 car t && (rulesF (ruleB p0 p1 p2 p3 p4 g.ov g.cv g.rd g.po g.ca car t) 0 8 []).isEmpty then startC g.ca car.toNat t else g.ca := by
  unfold startE
  split <;> rfl
theorem ok39x (n : Nat) : FnOKW C (n + 8) 39 (mkFW s39 G39x) := FnOKW_mono (ok39 n) (mkFW_mono fun ds r h => by
  unfold G39x at h
  split at h
  · rename_i car t p0 p1 p2 p3 p4 p5 ov os oh cv cs ch nr np nc rd po ca
    obtain ⟨hp, h⟩ := need_some h
    rw [yes_iff] at hp
    refine (need_yes ⟨hp.okg, hp.oko, hp.okc⟩).trans ?_
    rw [← h]
    rw [start_ca]
    have e : (rulesF (ruleB p0.I p1.I p2.I p3.I p4.I ((gsOf ov os oh cv cs ch rd po ca)).ov ((gsOf ov os oh cv cs ch rd po ca)).cv ((gsOf ov os oh cv cs ch rd po ca)).rd ((gsOf ov os oh cv cs ch rd po ca)).po ((gsOf ov os oh cv cs ch rd po ca)).ca car.I t.I) 0 8 []) = (rulesF (ruleB p0.I p1.I p2.I p3.I p4.I ov.B cv.B rd.L po.L ca.L car.I t.I) 0 8 []) := rfl
    rw [e]
    cases validB p5.I car.I t.I <;> cases (rulesF (ruleB p0.I p1.I p2.I p3.I p4.I ov.B cv.B rd.L po.L ca.L car.I t.I) 0 8 []).isEmpty <;> rfl
  · cases h)
theorem ok40x (n : Nat) : FnOKW C (n + 7) 40 (mkFW s40 G40x) := FnOKW_mono (ok40 n) (mkFW_mono fun ds r h => by
  unfold G40x at h
  split at h
  · rename_i car t p0 p1 p2 p3 p4 p5 ov os oh cv cs ch nr np nc rd po ca
    obtain ⟨hp, h⟩ := need_some h
    rw [yes_iff] at hp
    refine (need_yes ⟨hp.okg, hp.oko, hp.okc⟩).trans ?_
    rw [← h]
    cases validB p5.I car.I t.I <;> cases (rulesF (ruleB p0.I p1.I p2.I p3.I p4.I ov.B cv.B rd.L po.L ca.L car.I t.I) 0 8 []).isEmpty <;> rfl
  · cases h)
end Go.Proofs.Ytgmefblkmidglaa
namespace Go.Proofs.Ytgmefblkmidglaa
open Go.Lite
noncomputable def sp35 : SpL := [(47, mkF s47 G47)]
noncomputable def lp35 : LpL := []
noncomputable def sw35 : SwL := []
noncomputable def tab35 : Tab := mkTab sp35 lp35 sw35
noncomputable def sp34 : SpL := [(45, mkF s45 G45)]
noncomputable def lp34 : LpL := [(5, mkL l34_5 G34_5)]
noncomputable def sw34 : SwL := []
noncomputable def tab34 : Tab := mkTab sp34 lp34 sw34
end Go.Proofs.Ytgmefblkmidglaa
namespace Go.Proofs.Ytgmefblkmidglaa
open Go.Lite
set_option linter.unusedVariables false
set_option maxRecDepth 100000
theorem t35 (a b c d e f : D) : (fnT C tab35 35 s35 [a, b, c, d, e, f]).run =
  T.run (T.ite (within a.I (1 : Int) (60 : Int)) (T.ite (within b.I (1 : Int) (100000 : Int)) (T.ite (within c.I (1 : Int) a.I) (T.ite (within d.I (0 : Int) (100000 : Int)) (T.ite (within e.I (1 : Int) (100000 : Int)) (T.leaf [D.b (within f.I (1 : Int) (200 : Int))]) (T.leaf [D.b false])) (T.leaf [D.b false])) (T.leaf [D.b false])) (T.leaf [D.b false])) (T.leaf [D.b false])) := by kernel_rfl
theorem t34 (a b c d e f : D) : (fnT C tab34 34 s34 [a, b, c, d, e, f]).run =
  T.run (T.ite (!within a.I (1 : Int) (60 : Int)) (T.leaf [D.i 0, D.i 2]) (T.ite (!within b.I (1 : Int) (100000 : Int)) (T.leaf [D.i 0, D.i 2]) (T.ite (!within c.I (1 : Int) a.I) (T.leaf [D.i 0, D.i 2]) (T.ite (!within d.I (0 : Int) (100000 : Int)) (T.leaf [D.i 0, D.i 2]) (T.ite (!within e.I (1 : Int) (100000 : Int)) (T.leaf [D.i 0, D.i 2]) (T.ite (!within f.I (1 : Int) (200 : Int)) (T.leaf [D.i 0, D.i 2]) (T.need (decide ((0 : Int) ≤ a.I ∧ a.I = a.I ∧ a.I ≤ (2 : Int) ^ 40 ∧ (↑Try.prog.types[100].bytes : Int) * a.I ≤ (2 : Int) ^ 46)) (T.need (decide ((0 : Int) ≤ a.I ∧ a.I = a.I ∧ a.I ≤ (2 : Int) ^ 40 ∧ (↑Try.prog.types[100].bytes : Int) * a.I ≤ (2 : Int) ^ 46)) (T.need (decide ((0 : Int) ≤ f.I ∧ f.I = f.I ∧ f.I ≤ (2 : Int) ^ 40 ∧ (↑Try.prog.types[93].bytes : Int) * f.I ≤ (2 : Int) ^ 46)) (T.need (yes (((↑(List.length (List.replicate a.I.toNat [D.b false, D.i 0, D.b false])) : Int) = (↑(List.length (List.replicate a.I.toNat [D.b false, D.i 0, D.b false])) : Int) ∧ (↑(List.length (List.replicate a.I.toNat [D.b false, D.i 0, D.b false])) : Int) = (↑(List.length (List.replicate a.I.toNat [D.b false, D.i 0, D.b false])) : Int) ∧ (↑(List.length (List.replicate f.I.toNat [D.b false, D.i 0, D.i 0, D.b false, D.b false])) : Int) = (↑(List.length (List.replicate f.I.toNat [D.b false, D.i 0, D.i 0, D.b false, D.b false])) : Int)) ∧ (↑(List.length (List.replicate f.I.toNat [D.b false, D.i 0, D.i 0, D.b false, D.b false])) : Int) = (↑(List.length (List.replicate f.I.toNat [D.b false, D.i 0, D.i 0, D.b false, D.b false])) : Int) ∧ List.length (List.replicate f.I.toNat [D.b false, D.i 0, D.i 0, D.b false, D.b false]) ≤ 200 ∧ ((0 : Int) ≤ (0 : Int) ∧ (0 : Int) ≤ (↑(List.length (List.replicate f.I.toNat [D.b false, D.i 0, D.i 0, D.b false, D.b false])) : Int)) ∧ List.replicate f.I.toNat [D.b false, D.i 0, D.i 0, D.b false, D.b false] = List.replicate (Int.toNat (0 : Int)) ca1 ++ List.replicate (List.length (List.replicate f.I.toNat [D.b false, D.i 0, D.i 0, D.b false, D.b false]) - Int.toNat (0 : Int)) ca0)) (T.leaf [D.i 1, D.i 0, D.i a.I, D.i b.I, D.i c.I, D.i d.I, D.i e.I, D.i f.I, D.b false, D.i 0, D.b false, D.b false, D.i 0, D.b false, D.i (↑(Int.toNat (↑(List.length (List.replicate a.I.toNat [D.b false, D.i 0, D.b false])) : Int)) : Int), D.i (↑(Int.toNat (↑(List.length (List.replicate a.I.toNat [D.b false, D.i 0, D.b false])) : Int)) : Int), D.i (↑(Int.toNat (↑(List.length (List.replicate f.I.toNat [D.b false, D.i 0, D.i 0, D.b false, D.b false])) : Int)) : Int), D.l (List.replicate a.I.toNat [D.b false, D.i 0, D.b false]), D.l (List.replicate a.I.toNat [D.b false, D.i 0, D.b false]), D.l (List.replicate (List.length (List.replicate f.I.toNat [D.b false, D.i 0, D.i 0, D.b false, D.b false])) ca1)]))))))))))) := by kernel_rfl
theorem t34_5 (a b c d e f g h i j k l m n o p q r s t : D) : (roundT C tab34 34 (loopOf C.P 34 5) l34_5 [a, b, c, d, e, f, g, h, i, j, k, l, m, n, o, p, q, r, s, t]).run =
  T.run (T.ite (decide (b.I < a.I)) (T.need (decide ((0 : Int) ≤ b.I ∧ b.I < (q.I.toNat : Int))) (T.need (decide (b.I.toNat < t.L.length)) (T.leaf (Rd.again [D.i a.I, D.i (IntKind.wrap IntKind.i64 (b.I + (1 : Int))), D.i c.I, D.i d.I, D.i e.I, D.i f.I, D.i g.I, D.i h.I, D.b i.B, D.i j.I, D.b k.B, D.b l.B, D.i m.I, D.b n.B, D.i (o.I.toNat : Int), D.i (p.I.toNat : Int), D.i (q.I.toNat : Int), D.l r.L, D.l s.L, D.l (List.set t.L b.I.toNat (updC (List.getD t.L b.I.toNat []) [D.i (-1 : Int)] (0 + 2) 0 (List.length [K.bool, K.int IntKind.i64, K.int IntKind.i64, K.bool, K.bool])))])))) (T.leaf (Rd.out (Ex.exit 0) [D.i c.I, D.i d.I, D.i e.I, D.i f.I, D.i g.I, D.i h.I, D.b i.B, D.i j.I, D.b k.B, D.b l.B, D.i m.I, D.b n.B, D.i (o.I.toNat : Int), D.i (p.I.toNat : Int), D.i (q.I.toNat : Int), D.l r.L, D.l s.L, D.l t.L]))) := by kernel_rfl
end Go.Proofs.Ytgmefblkmidglaa
namespace Go.Proofs.Ytgmefblkmidglaa
open Go.Lite
set_option maxRecDepth 100000
set_option linter.unusedVariables false
set_option linter.unusedSimpArgs false
theorem ok35 (n : Nat) : FnOK C (n + 2) 35 (mkF s35 G35) := by
  refine fn_ofS hC (sp := sp35) (lp := lp35) (sw := sw35) ⟨ok47 n, trivial⟩ trivial (by kernel_rfl) [] (by kernel_rfl) rfl (fun k hk => by cases hk) fun ds r hh => ?_
  unfold G35 at hh
  split at hh
  · rename_i p0 p1 p2 p3 p4 p5
    refine (t35 p0 p1 p2 p3 p4 p5).trans ?_
    rw [← hh]
    unfold planG
    repeat' (refine go_ite (fun h => ?_) (fun h => ?_))
    all_goals try simp only [within_dec, Bool.not_eq_true', Bool.not_eq_false', beq_iff_eq, beq_eq_false_iff_ne, bne_iff_ne, bne_eq_false_iff_eq, decide_eq_true_eq, decide_eq_false_iff_not, ne_eq] at *
    all_goals first
      | exact congrArg (fun b => some [D.b b]) (decide_eq_false (by omega)).symm
      | exact congrArg (fun b => some [D.b b]) (decide_eq_true (by omega)).symm
      | exact congrArg (fun b => some [D.b b]) (decide_eq_decide.2 (by omega))
  · cases hh
theorem rep_get {n i : Nat} {a b : List D} (h : i < n) : (List.replicate i a ++ List.replicate (n - i) b).getD i [] = b := by
  simp only [List.getD_eq_getElem?_getD]
  rw [List.getElem?_append_right (by simp), List.getElem?_replicate, if_pos (by simp; omega)]
  rfl
theorem rep_set {n i : Nat} {a b : List D} (h : i < n) : (List.replicate i a ++ List.replicate (n - i) b).set i a = List.replicate (i + 1) a ++ List.replicate (n - (i + 1)) b := by
  obtain ⟨k, hk⟩ : ∃ k, n - i = k + 1 := ⟨n - i - 1, by omega⟩
  have e : n - (i + 1) = k := by omega
  rw [List.set_append_right _ _ (by simp), hk, e, List.replicate_succ, List.replicate_succ' (n := i)]
  simp
theorem rep_done {n i : Nat} {a b : List D} (h : n ≤ i) (hi : i ≤ n) : List.replicate i a ++ List.replicate (n - i) b = List.replicate n a := by
  obtain rfl : i = n := by omega
  simp
theorem room {x : Int} {b : Nat} (h0 : 0 ≤ x) (h1 : x ≤ 200) (hb : b ≤ 64) : 0 ≤ x ∧ True ∧ x ≤ (2 : Int) ^ 40 ∧ (b : Int) * x ≤ (2 : Int) ^ 46 := by
  refine ⟨h0, trivial, Int.le_trans h1 (by decide), Int.le_trans (b := 64 * 200) (Int.mul_le_mul (by omega) h1 h0 (by decide)) (by decide)⟩
theorem upd0 : updC ca0 [.i (-1)] (0 + 2) 0 (List.length [K.bool, K.int .i64, K.int .i64, K.bool, K.bool]) = ca1 := by simp [updC, ca0, ca1]
theorem ok34_5 (n : Nat) : LoopSim C (n + 1) 34 (loopOf C.P 34 5) (mkL l34_5 G34_5) := by
  refine loop_ofK hC (sp := sp34) (lp := lp34) (sw := sw34) ⟨ok45 n, trivial⟩ trivial 0 [] (by kernel_rfl) rfl (fun k hk => by cases hk) (by kernel_rfl) (fun ds => ((ds.getD 0 default).I - (ds.getD 1 default).I).toNat) fun ds rr h => ?_
  unfold G34_5 at h
  split at h
  · rename_i m i p0 p1 p2 p3 p4 p5 ov os oh cv cs ch nr np nc rd po ca
    obtain ⟨hp, h⟩ := need_some h
    rw [yes_iff] at hp
    have hb := big_eq
    refine ⟨by rw [fuelC]; simp; omega, ?_⟩
    rw [show (roundTK C (mkTab sp34 lp34 sw34) 34 (loopOf C.P 34 5) 0 l34_5 [m, i, p0, p1, p2, p3, p4, p5, ov, os, oh, cv, cs, ch, nr, np, nc, rd, po, ca]).run = _ from t34_5 m i p0 p1 p2 p3 p4 p5 ov os oh cv cs ch nr np nc rd po ca]
    obtain ⟨⟨hr, hpo, hc⟩, hm, hle, ⟨hi0, hi1⟩, hl⟩ := hp
    obtain ⟨k, hk⟩ : ∃ k : Nat, i.I = k := ⟨i.I.toNat, by omega⟩
    simp only [hk, hm, hr, hpo, hc, Int.toNat_natCast] at h hi0 hi1 hl ⊢
    refine rd_if (fun hlt => ?_) fun hge => rd_out ?_
    · have hk2 : k < ca.L.length := by omega
      refine rd_dec (by omega) (rd_dec hk2 ?_)
      rw [wrap_succ (by omega)]
      have e0 : ca.L.getD k [] = ca0 := by rw [hl]; exact rep_get hk2
      have e1 : ca.L.set k ca1 = List.replicate (k + 1) ca1 ++ List.replicate (ca.L.length - (k + 1)) ca0 := (congrArg (fun l : List (List D) => l.set k ca1) hl).trans (rep_set hk2)
      rw [e0, upd0]
      refine rd_again ((need_yes ⟨⟨rfl, rfl, by simp only [I_i, L_l, List.length_set]⟩, by simp only [I_i, L_l, List.length_set], by simp only [L_l, List.length_set]; omega, ⟨by simp only [I_i]; omega, by simp only [I_i]; omega⟩, by simp only [I_i, L_l, List.length_set, Int.toNat_natCast]; exact e1⟩).trans ?_) (show ((ca.L.length : Int) - ((k + 1 : Nat) : Int)).toNat < (m.I - i.I).toNat by omega)
      rw [← h]
      simp only [L_l, I_i, List.length_set]
      rfl
    · rw [← h]
      have e1 : ca.L = List.replicate ca.L.length ca1 := hl.trans (rep_done (by omega) (by omega))
      rw [← e1]
      rfl
  · cases h
theorem ok34 (n : Nat) : FnOK C (n + 2) 34 (mkF s34 G34) := by
  refine fn_ofS hC (sp := sp34) (lp := lp34) (sw := sw34) ⟨ok45 n, trivial⟩ trivial (by kernel_rfl) [5] (by kernel_rfl) (by kernel_rfl) (fun k hk L hL => by simp at hk; subst hk; cases hL; exact ok34_5 n) fun ds r hh => ?_
  unfold G34 at hh
  split at hh
  · rename_i p0 p1 p2 p3 p4 p5
    refine (t34 p0 p1 p2 p3 p4 p5).trans ?_
    rw [← hh]
    refine go_not (fun c => ?_) fun c1 => go_not (fun c => ?_) fun c2 => go_not (fun c => ?_) fun c3 => go_not (fun c => ?_) fun c4 => go_not (fun c => ?_) fun c5 => go_not (fun c => ?_) fun c6 => ?_
    all_goals simp only [within_dec, decide_eq_true_eq, decide_eq_false_iff_not] at *
    all_goals try (rw [show planG p0.I p1.I p2.I p3.I p4.I p5.I = false from decide_eq_false (by omega)]; rfl)
    rw [show planG p0.I p1.I p2.I p3.I p4.I p5.I = true from decide_eq_true (by omega)]
    have b1 : Try.prog.types[100].bytes ≤ 64 := by rw [show Try.prog.types[100].bytes = 24 by kernel_rfl]; decide
    have b2 : Try.prog.types[93].bytes ≤ 64 := by rw [show Try.prog.types[93].bytes = 32 by kernel_rfl]; decide
    have e5 : ((p5.I.toNat : Nat) : Int) = p5.I := by omega
    have e0 : ((p0.I.toNat : Nat) : Int) = p0.I := by omega
    refine go_dec (room (x := p0.I) (by omega) (by omega) b1) (go_dec (room (x := p0.I) (by omega) (by omega) b1) (go_dec (room (x := p5.I) (by omega) (by omega) b2) (go_yes ?_ ?_)))
    · simp only [List.length_replicate, Int.toNat_natCast, Int.toNat_zero, List.replicate_zero, List.nil_append, Nat.sub_zero]
      refine ⟨⟨?_, ?_, ?_⟩, ?_, ?_, ⟨?_, ?_⟩, ?_⟩
      all_goals first
        | trivial
        | omega
        | rfl
    · simp only [List.length_replicate, Int.toNat_natCast, e5, e0]
      rfl
  · cases hh
end Go.Proofs.Ytgmefblkmidglaa
namespace Go.Proofs.Ytgmefblkmidglaa
open Go.Lite
set_option maxRecDepth 100000
set_option linter.unusedVariables false
set_option linter.unusedSimpArgs false
theorem rulesF_ne (R : Nat → Bool) : ∀ (k i : Nat) (o : List (List D)), o ≠ [] → rulesF R i k o ≠ []
  | 0, _, _, h => h
  | k + 1, i, o, h => rulesF_ne R k (i + 1) _ (by split <;> simp [h])
theorem rulesF_empty (R : Nat → Bool) : ∀ (k i : Nat), (rulesF R i k []).isEmpty = true → ∀ j, i ≤ j → j < i + k → R j = false
  | 0, _, _, _, h1, h2 => by omega
  | k + 1, i, h, j, h1, h2 => by
    unfold rulesF at h
    cases hr : R i with
    | true =>
      rw [hr, if_pos rfl] at h
      exact absurd (List.isEmpty_iff.1 h) (rulesF_ne R k _ _ (by simp))
    | false =>
      rw [hr, if_neg Bool.false_ne_true] at h
      by_cases e : j = i
      · rw [e]; exact hr
      · exact rulesF_empty R k (i + 1) h j (by omega) (by omega)
theorem validB_yes {p5 car t : Int} (h : validB p5 car t = true) : (0 ≤ car ∧ car < p5) ∧ 0 ≤ t ∧ t ≤ 100000 := by
  have := of_decide_eq_true h
  omega
end Go.Proofs.Ytgmefblkmidglaa
namespace Go.Proofs.Ytgmefblkmidglaa
open Go.Lite
def s43 : Sig := ⟨[.eptr [.k (.int .i64), .k (.int .i64), .k (.int .i64), .k (.int .i64), .k (.int .i64), .k (.int .i64), .k .bool, .k (.int .i64), .k .bool, .k .bool, .k (.int .i64), .k .bool, .k (.ro [.bool, .int .i64, .bool]), .k (.ro [.bool, .int .i64, .bool]), .k (.ro [.bool, .int .i64, .int .i64, .bool, .bool])], .agg [.k (.int .i64), .k (.int .i64), .k (.int .i64), .k (.int .i64), .k (.int .i64), .k (.int .i64)], .k (.ro [.int .i64, .int .i64, .int .i64, .int .i64]), .k (.int .i64)], [(.k .bool, [])]⟩
def l43_3 : LSig := mkLS [0, 2, 3, 5, 9, 10, 11] [(204, [(0, .eptr [.k (.int .i64), .k (.int .i64), .k (.int .i64), .k (.int .i64), .k (.int .i64), .k (.int .i64), .k .bool, .k (.int .i64), .k .bool, .k .bool, .k (.int .i64), .k .bool, .k (.ro [.bool, .int .i64, .bool]), .k (.ro [.bool, .int .i64, .bool]), .k (.ro [.bool, .int .i64, .int .i64, .bool, .bool])]), (2, .k (.ro [.int .i64, .int .i64, .int .i64, .int .i64])), (3, .k (.int .i64)), (5, .ptr 0 6 0 0), (9, .k (.int .i64)), (10, .k (.int .i64)), (11, .k (.int .i64))], [.box [.k (.int .i64), .k (.int .i64), .k (.int .i64), .k (.int .i64), .k (.int .i64), .k (.int .i64)]])] [(.exit 0, [0, 2, 3, 5, 9, 10], [(204, [(0, .eptr [.k (.int .i64), .k (.int .i64), .k (.int .i64), .k (.int .i64), .k (.int .i64), .k (.int .i64), .k .bool, .k (.int .i64), .k .bool, .k .bool, .k (.int .i64), .k .bool, .k (.ro [.bool, .int .i64, .bool]), .k (.ro [.bool, .int .i64, .bool]), .k (.ro [.bool, .int .i64, .int .i64, .bool, .bool])]), (2, .k (.ro [.int .i64, .int .i64, .int .i64, .int .i64])), (3, .k (.int .i64)), (5, .ptr 0 6 0 0), (9, .k (.int .i64)), (10, .k (.int .i64))], [.box [.k (.int .i64), .k (.int .i64), .k (.int .i64), .k (.int .i64), .k (.int .i64), .k (.int .i64)]])])]
def l43_12 : LSig := mkLS [0, 2, 3, 5, 9, 10, 12] [(204, [(0, .eptr [.k (.int .i64), .k (.int .i64), .k (.int .i64), .k (.int .i64), .k (.int .i64), .k (.int .i64), .k .bool, .k (.int .i64), .k .bool, .k .bool, .k (.int .i64), .k .bool, .k (.ro [.bool, .int .i64, .bool]), .k (.ro [.bool, .int .i64, .bool]), .k (.ro [.bool, .int .i64, .int .i64, .bool, .bool])]), (2, .k (.ro [.int .i64, .int .i64, .int .i64, .int .i64])), (3, .k (.int .i64)), (5, .ptr 0 6 0 0), (9, .k (.int .i64)), (10, .k (.int .i64)), (12, .k (.int .i64))], [.box [.k (.int .i64), .k (.int .i64), .k (.int .i64), .k (.int .i64), .k (.int .i64), .k (.int .i64)]])] [(.ret, [8], [(204, [(8, .k .bool)], [])]), (.exit 2, [0, 2, 3, 5], [(204, [(0, .eptr [.k (.int .i64), .k (.int .i64), .k (.int .i64), .k (.int .i64), .k (.int .i64), .k (.int .i64), .k .bool, .k (.int .i64), .k .bool, .k .bool, .k (.int .i64), .k .bool, .k (.ro [.bool, .int .i64, .bool]), .k (.ro [.bool, .int .i64, .bool]), .k (.ro [.bool, .int .i64, .int .i64, .bool, .bool])]), (2, .k (.ro [.int .i64, .int .i64, .int .i64, .int .i64])), (3, .k (.int .i64)), (5, .ptr 0 6 0 0)], [.box [.k (.int .i64), .k (.int .i64), .k (.int .i64), .k (.int .i64), .k (.int .i64), .k (.int .i64)]])])]
def l43_17 : LSig := mkLS [0, 2, 3, 5, 13] [(204, [(0, .eptr [.k (.int .i64), .k (.int .i64), .k (.int .i64), .k (.int .i64), .k (.int .i64), .k (.int .i64), .k .bool, .k (.int .i64), .k .bool, .k .bool, .k (.int .i64), .k .bool, .k (.ro [.bool, .int .i64, .bool]), .k (.ro [.bool, .int .i64, .bool]), .k (.ro [.bool, .int .i64, .int .i64, .bool, .bool])]), (2, .k (.ro [.int .i64, .int .i64, .int .i64, .int .i64])), (3, .k (.int .i64)), (5, .ptr 0 6 0 0), (13, .k (.int .i64))], [.box [.k (.int .i64), .k (.int .i64), .k (.int .i64), .k (.int .i64), .k (.int .i64), .k (.int .i64)]])] [(.exit 4, [0, 5], [(204, [(0, .eptr [.k (.int .i64), .k (.int .i64), .k (.int .i64), .k (.int .i64), .k (.int .i64), .k (.int .i64), .k .bool, .k (.int .i64), .k .bool, .k .bool, .k (.int .i64), .k .bool, .k (.ro [.bool, .int .i64, .bool]), .k (.ro [.bool, .int .i64, .bool]), .k (.ro [.bool, .int .i64, .int .i64, .bool, .bool])]), (5, .ptr 0 6 0 0)], [.box [.k (.int .i64), .k (.int .i64), .k (.int .i64), .k (.int .i64), .k (.int .i64), .k (.int .i64)]])]), (.ret, [8], [(204, [(8, .k .bool)], [])])]
def l43_21 : LSig := mkLS [0, 2, 3, 5, 13, 14, 15, 16, 17] [(204, [(0, .eptr [.k (.int .i64), .k (.int .i64), .k (.int .i64), .k (.int .i64), .k (.int .i64), .k (.int .i64), .k .bool, .k (.int .i64), .k .bool, .k .bool, .k (.int .i64), .k .bool, .k (.ro [.bool, .int .i64, .bool]), .k (.ro [.bool, .int .i64, .bool]), .k (.ro [.bool, .int .i64, .int .i64, .bool, .bool])]), (2, .k (.ro [.int .i64, .int .i64, .int .i64, .int .i64])), (3, .k (.int .i64)), (5, .ptr 0 6 0 0), (13, .k (.int .i64)), (14, .k (.int .i64)), (15, .k (.int .i64)), (16, .k (.int .i64)), (17, .k (.int .i64))], [.box [.k (.int .i64), .k (.int .i64), .k (.int .i64), .k (.int .i64), .k (.int .i64), .k (.int .i64)]])] [(.exit 6, [0, 2, 3, 5, 13, 14, 15, 16], [(204, [(0, .eptr [.k (.int .i64), .k (.int .i64), .k (.int .i64), .k (.int .i64), .k (.int .i64), .k (.int .i64), .k .bool, .k (.int .i64), .k .bool, .k .bool, .k (.int .i64), .k .bool, .k (.ro [.bool, .int .i64, .bool]), .k (.ro [.bool, .int .i64, .bool]), .k (.ro [.bool, .int .i64, .int .i64, .bool, .bool])]), (2, .k (.ro [.int .i64, .int .i64, .int .i64, .int .i64])), (3, .k (.int .i64)), (5, .ptr 0 6 0 0), (13, .k (.int .i64)), (14, .k (.int .i64)), (15, .k (.int .i64)), (16, .k (.int .i64))], [.box [.k (.int .i64), .k (.int .i64), .k (.int .i64), .k (.int .i64), .k (.int .i64), .k (.int .i64)]])])]
def l43_34 : LSig := mkLS [0, 5, 19] [(204, [(0, .eptr [.k (.int .i64), .k (.int .i64), .k (.int .i64), .k (.int .i64), .k (.int .i64), .k (.int .i64), .k .bool, .k (.int .i64), .k .bool, .k .bool, .k (.int .i64), .k .bool, .k (.ro [.bool, .int .i64, .bool]), .k (.ro [.bool, .int .i64, .bool]), .k (.ro [.bool, .int .i64, .int .i64, .bool, .bool])]), (5, .ptr 0 6 0 0), (19, .k (.int .i64))], [.box [.k (.int .i64), .k (.int .i64), .k (.int .i64), .k (.int .i64), .k (.int .i64), .k (.int .i64)]])] [(.ret, [8], [(204, [(8, .k .bool)], [])]), (.exit 8, [], [(204, [], [])])]
end Go.Proofs.Ytgmefblkmidglaa
set_option linter.unusedVariables false
namespace Go.Proofs.Ytgmefblkmidglaa
open Go.Lite
noncomputable section
def kndF (q : Int) (ev : List (List D)) : Nat → Nat → Int → Int
  | _, 0, t => t
  | i, k + 1, t => kndF q ev (i + 1) k (if ix (ev.getD i []) 0 = q then mxI t (ix (ev.getD i []) 1) else t)
def pstF (q po : Int) (ev : List (List D)) : Nat → Nat → Int → Int
  | _, 0, t => t
  | i, k + 1, t => pstF q po ev (i + 1) k (if ix (ev.getD i []) 2 = po ∧ ix (ev.getD i []) 0 = q then mxI t (ix (ev.getD i []) 1) else t)
def badE (op co : Int) (e : List D) : Bool := (ix e 0 == 2 && decide (ix e 1 ≥ op)) || (ix e 0 == 7 && decide (ix e 1 ≥ co))
def okE (op co : Int) (ev : List (List D)) (j : Nat) : Bool := !badE op co (ev.getD j [])
def postB (w1 t : Int) (last red green : Int) : Bool := !(decide (last < 0) || decide (last < t - w1) || (decide (red ≥ 0) && decide (red ≥ green)))
def okP (w1 t : Int) (ev : List (List D)) (j : Nat) : Bool := postB w1 t (lastB j ev) (pstF 4 j ev 0 ev.length (-1)) (pstF 5 j ev 0 ev.length (-1))
def okR (w2 : Int) (ca : List (List D)) (j : Nat) : Bool := !(bx (ca.getD j []) 0 && (!bx (ca.getD j []) 3 && decide (ix (ca.getD j []) 2 < w2 - 1)))
def readyB (w0 w1 w2 w5 t : Int) (ev ca : List (List D)) : Bool :=
  (decide (0 ≤ kndF 1 ev 0 ev.length (-1)) && decide (0 ≤ kndF 6 ev 0 ev.length (-1))) && (allFrom (okE (kndF 1 ev 0 ev.length (-1)) (kndF 6 ev 0 ev.length (-1)) ev) 0 ev.length && (allFrom (okP w1 t ev) 0 w0.toNat && allFrom (okR w2 ca) 0 w5.toNat))
def G43_3 (ds : List D) : T (Ex × List D) := match ds with
  | [p0, p1, p2, p3, p4, p5, ov, os, oh, cv, cs, ch, rd, po, ca, ev, t, op, co, i, w0, w1, w2, w3, w4, w5] => .need (yes (ev.L.length ≤ 1000 ∧ (0 ≤ i.I ∧ i.I ≤ ev.L.length))) (.leaf (.exit 0, [.i p0.I, .i p1.I, .i p2.I, .i p3.I, .i p4.I, .i p5.I, .b ov.B, .i os.I, .b oh.B, .b cv.B, .i cs.I, .b ch.B, .l rd.L, .l po.L, .l ca.L, .l ev.L, .i t.I, .i (kndF 1 ev.L i.I.toNat (ev.L.length - i.I.toNat) op.I), .i (kndF 6 ev.L i.I.toNat (ev.L.length - i.I.toNat) co.I), .i w0.I, .i w1.I, .i w2.I, .i w3.I, .i w4.I, .i w5.I]))
  | _ => .fail
def G43_12 (ds : List D) : T (Ex × List D) := match ds with
  | [p0, p1, p2, p3, p4, p5, ov, os, oh, cv, cs, ch, rd, po, ca, ev, t, op, co, i, w0, w1, w2, w3, w4, w5] => .need (yes (ev.L.length ≤ 1000 ∧ (0 ≤ i.I ∧ i.I ≤ ev.L.length))) (.ite (allFrom (okE op.I co.I ev.L) i.I.toNat (ev.L.length - i.I.toNat)) (.leaf (.exit 2, [.i p0.I, .i p1.I, .i p2.I, .i p3.I, .i p4.I, .i p5.I, .b ov.B, .i os.I, .b oh.B, .b cv.B, .i cs.I, .b ch.B, .l rd.L, .l po.L, .l ca.L, .l ev.L, .i t.I, .i w0.I, .i w1.I, .i w2.I, .i w3.I, .i w4.I, .i w5.I])) (.leaf (.ret, [.b false])))
  | _ => .fail
def G43_17 (ds : List D) : T (Ex × List D) := match ds with
  | [p0, p1, p2, p3, p4, p5, ov, os, oh, cv, cs, ch, rd, po, ca, ev, t, i, w0, w1, w2, w3, w4, w5] => .need (yes (ev.L.length ≤ 1000 ∧ (0 ≤ t.I ∧ t.I ≤ 100000) ∧ okPl w0.I w1.I w2.I w3.I w4.I w5.I ∧ 0 ≤ i.I ∧ i.I ≤ w0.I)) (.ite (allFrom (okP w1.I t.I ev.L) i.I.toNat (w0.I.toNat - i.I.toNat)) (.leaf (.exit 4, [.i p0.I, .i p1.I, .i p2.I, .i p3.I, .i p4.I, .i p5.I, .b ov.B, .i os.I, .b oh.B, .b cv.B, .i cs.I, .b ch.B, .l rd.L, .l po.L, .l ca.L, .i w0.I, .i w1.I, .i w2.I, .i w3.I, .i w4.I, .i w5.I])) (.leaf (.ret, [.b false])))
  | _ => .fail
def G43_21 (ds : List D) : T (Ex × List D) := match ds with
  | [p0, p1, p2, p3, p4, p5, ov, os, oh, cv, cs, ch, rd, po, ca, ev, t, k, la, re, gr, i, w0, w1, w2, w3, w4, w5] => .need (yes (ev.L.length ≤ 1000 ∧ (0 ≤ i.I ∧ i.I ≤ ev.L.length))) (.leaf (.exit 6, [.i p0.I, .i p1.I, .i p2.I, .i p3.I, .i p4.I, .i p5.I, .b ov.B, .i os.I, .b oh.B, .b cv.B, .i cs.I, .b ch.B, .l rd.L, .l po.L, .l ca.L, .l ev.L, .i t.I, .i k.I, .i (lstF k.I ev.L i.I.toNat (ev.L.length - i.I.toNat) la.I), .i (pstF 4 k.I ev.L i.I.toNat (ev.L.length - i.I.toNat) re.I), .i (pstF 5 k.I ev.L i.I.toNat (ev.L.length - i.I.toNat) gr.I), .i w0.I, .i w1.I, .i w2.I, .i w3.I, .i w4.I, .i w5.I]))
  | _ => .fail
def G43_34 (ds : List D) : T (Ex × List D) := match ds with
  | [p0, p1, p2, p3, p4, p5, ov, os, oh, cv, cs, ch, rd, po, ca, i, w0, w1, w2, w3, w4, w5] => .need (yes ((w5.I = p5.I ∧ (ca.L.length : Int) = p5.I) ∧ okPl w0.I w1.I w2.I w3.I w4.I w5.I ∧ 0 ≤ i.I ∧ i.I ≤ w5.I)) (.ite (allFrom (okR w2.I ca.L) i.I.toNat (w5.I.toNat - i.I.toNat)) (.leaf (.exit 8, [])) (.leaf (.ret, [.b false])))
  | _ => .fail
def G43 (ds : List D) : T (List D) := match ds with
  | [p0, p1, p2, p3, p4, p5, ov, os, oh, cv, cs, ch, rd, po, ca, w0, w1, w2, w3, w4, w5, ev, t] => .need (yes (ev.L.length ≤ 1000 ∧ ((0 ≤ t.I ∧ t.I ≤ 100000) ∧ okPl w0.I w1.I w2.I w3.I w4.I w5.I) ∧ w5.I = p5.I ∧ (ca.L.length : Int) = p5.I)) (.leaf [.b (readyB w0.I w1.I w2.I w5.I t.I ev.L ca.L)])
  | _ => .fail
end
end Go.Proofs.Ytgmefblkmidglaa
namespace Go.Proofs.Ytgmefblkmidglaa
open Go.Lite
noncomputable def sp43 : SpL := [(42, mkF s42 G42)]
noncomputable def lp43 : LpL := [(3, mkL l43_3 G43_3), (12, mkL l43_12 G43_12), (17, mkL l43_17 G43_17), (21, mkL l43_21 G43_21), (34, mkL l43_34 G43_34)]
noncomputable def sw43 : SwL := []
noncomputable def tab43 : Tab := mkTab sp43 lp43 sw43
end Go.Proofs.Ytgmefblkmidglaa
namespace Go.Proofs.Ytgmefblkmidglaa
open Go.Lite
set_option linter.unusedVariables false
set_option maxRecDepth 100000
theorem t43 (a b c d e f g h i j k l m n o p q r s t u v w : D) : (fnT C tab43 43 s43 [a, b, c, d, e, f, g, h, i, j, k, l, m, n, o, p, q, r, s, t, u, v, w]).run =
  T.run (T.need (yes (v.L.length ≤ 1000 ∧ (0 : Int) ≤ (0 : Int) ∧ (0 : Int) ≤ (v.L.length : Int))) (T.ite (decide (kndF (1 : Int) v.L (Int.toNat (0 : Int)) (v.L.length - Int.toNat (0 : Int)) (-1 : Int) < (0 : Int))) (T.leaf [D.b false]) (T.ite (decide (kndF (6 : Int) v.L (Int.toNat (0 : Int)) (v.L.length - Int.toNat (0 : Int)) (-1 : Int) < (0 : Int))) (T.leaf [D.b false]) (T.need (yes (v.L.length ≤ 1000 ∧ (0 : Int) ≤ (0 : Int) ∧ (0 : Int) ≤ (v.L.length : Int))) (T.ite (allFrom (okE (kndF (1 : Int) v.L (Int.toNat (0 : Int)) (v.L.length - Int.toNat (0 : Int)) (-1 : Int)) (kndF (6 : Int) v.L (Int.toNat (0 : Int)) (v.L.length - Int.toNat (0 : Int)) (-1 : Int)) v.L) (Int.toNat (0 : Int)) (v.L.length - Int.toNat (0 : Int))) (T.need (yes (v.L.length ≤ 1000 ∧ ((0 : Int) ≤ w.I ∧ w.I ≤ (100000 : Int)) ∧ okPl p.I q.I r.I s.I t.I u.I ∧ (0 : Int) ≤ (0 : Int) ∧ (0 : Int) ≤ p.I)) (T.ite (allFrom (okP q.I w.I v.L) (Int.toNat (0 : Int)) (p.I.toNat - Int.toNat (0 : Int))) (T.need (yes ((u.I = f.I ∧ (o.L.length : Int) = f.I) ∧ okPl p.I q.I r.I s.I t.I u.I ∧ (0 : Int) ≤ (0 : Int) ∧ (0 : Int) ≤ u.I)) (T.ite (allFrom (okR r.I o.L) (Int.toNat (0 : Int)) (u.I.toNat - Int.toNat (0 : Int))) (T.leaf [D.b true]) (T.leaf [D.b false]))) (T.leaf [D.b false]))) (T.leaf [D.b false])))))) := by kernel_rfl
theorem t43_3 (a b c d e f g h i j k l m n o p q r s t u v w x y z : D) : (roundT C tab43 43 (loopOf C.P 43 3) l43_3 [a, b, c, d, e, f, g, h, i, j, k, l, m, n, o, p, q, r, s, t, u, v, w, x, y, z]).run =
  T.run (T.ite (decide (t.I < (p.L.length : Int))) (T.need (decide ((0 : Int) ≤ t.I ∧ t.I < (p.L.length : Int))) (T.ite (D.I (List.getD (List.getD p.L t.I.toNat []) 0 default) == (1 : Int)) (T.need (decide ((0 : Int) ≤ t.I ∧ t.I < (p.L.length : Int))) (T.need (decide ((0 : Int) ≤ t.I ∧ t.I < (p.L.length : Int))) (T.ite (D.I (List.getD (List.getD p.L t.I.toNat []) 0 default) == (6 : Int)) (T.need (decide ((0 : Int) ≤ t.I ∧ t.I < (p.L.length : Int))) (T.leaf (Rd.again [D.i a.I, D.i b.I, D.i c.I, D.i d.I, D.i e.I, D.i f.I, D.b g.B, D.i h.I, D.b i.B, D.b j.B, D.i k.I, D.b l.B, D.l m.L, D.l n.L, D.l o.L, D.l p.L, D.i q.I, D.i (if D.I (List.getD (List.getD p.L t.I.toNat []) (0 + 1) default) > r.I then D.I (List.getD (List.getD p.L t.I.toNat []) (0 + 1) default) else r.I), D.i (if D.I (List.getD (List.getD p.L t.I.toNat []) (0 + 1) default) > s.I then D.I (List.getD (List.getD p.L t.I.toNat []) (0 + 1) default) else s.I), D.i (IntKind.wrap IntKind.i64 (t.I + (1 : Int))), D.i u.I, D.i v.I, D.i w.I, D.i x.I, D.i y.I, D.i z.I]))) (T.leaf (Rd.again [D.i a.I, D.i b.I, D.i c.I, D.i d.I, D.i e.I, D.i f.I, D.b g.B, D.i h.I, D.b i.B, D.b j.B, D.i k.I, D.b l.B, D.l m.L, D.l n.L, D.l o.L, D.l p.L, D.i q.I, D.i (if D.I (List.getD (List.getD p.L t.I.toNat []) (0 + 1) default) > r.I then D.I (List.getD (List.getD p.L t.I.toNat []) (0 + 1) default) else r.I), D.i s.I, D.i (IntKind.wrap IntKind.i64 (t.I + (1 : Int))), D.i u.I, D.i v.I, D.i w.I, D.i x.I, D.i y.I, D.i z.I]))))) (T.need (decide ((0 : Int) ≤ t.I ∧ t.I < (p.L.length : Int))) (T.ite (D.I (List.getD (List.getD p.L t.I.toNat []) 0 default) == (6 : Int)) (T.need (decide ((0 : Int) ≤ t.I ∧ t.I < (p.L.length : Int))) (T.leaf (Rd.again [D.i a.I, D.i b.I, D.i c.I, D.i d.I, D.i e.I, D.i f.I, D.b g.B, D.i h.I, D.b i.B, D.b j.B, D.i k.I, D.b l.B, D.l m.L, D.l n.L, D.l o.L, D.l p.L, D.i q.I, D.i r.I, D.i (if D.I (List.getD (List.getD p.L t.I.toNat []) (0 + 1) default) > s.I then D.I (List.getD (List.getD p.L t.I.toNat []) (0 + 1) default) else s.I), D.i (IntKind.wrap IntKind.i64 (t.I + (1 : Int))), D.i u.I, D.i v.I, D.i w.I, D.i x.I, D.i y.I, D.i z.I]))) (T.leaf (Rd.again [D.i a.I, D.i b.I, D.i c.I, D.i d.I, D.i e.I, D.i f.I, D.b g.B, D.i h.I, D.b i.B, D.b j.B, D.i k.I, D.b l.B, D.l m.L, D.l n.L, D.l o.L, D.l p.L, D.i q.I, D.i r.I, D.i s.I, D.i (IntKind.wrap IntKind.i64 (t.I + (1 : Int))), D.i u.I, D.i v.I, D.i w.I, D.i x.I, D.i y.I, D.i z.I])))))) (T.leaf (Rd.out (Ex.exit 0) [D.i a.I, D.i b.I, D.i c.I, D.i d.I, D.i e.I, D.i f.I, D.b g.B, D.i h.I, D.b i.B, D.b j.B, D.i k.I, D.b l.B, D.l m.L, D.l n.L, D.l o.L, D.l p.L, D.i q.I, D.i r.I, D.i s.I, D.i u.I, D.i v.I, D.i w.I, D.i x.I, D.i y.I, D.i z.I]))) := by kernel_rfl
theorem t43_12 (a b c d e f g h i j k l m n o p q r s t u v w x y z : D) : (roundT C tab43 43 (loopOf C.P 43 12) l43_12 [a, b, c, d, e, f, g, h, i, j, k, l, m, n, o, p, q, r, s, t, u, v, w, x, y, z]).run =
  T.run (T.ite (decide (t.I < (p.L.length : Int))) (T.need (decide ((0 : Int) ≤ t.I ∧ t.I < (p.L.length : Int))) (T.ite (D.I (List.getD (List.getD p.L t.I.toNat []) 0 default) == (2 : Int)) (T.need (decide ((0 : Int) ≤ t.I ∧ t.I < (p.L.length : Int))) (T.ite (decide (D.I (List.getD (List.getD p.L t.I.toNat []) (0 + 1) default) ≥ r.I)) (T.leaf (Rd.out Ex.ret [D.b false])) (T.need (decide ((0 : Int) ≤ t.I ∧ t.I < (p.L.length : Int))) (T.ite (D.I (List.getD (List.getD p.L t.I.toNat []) 0 default) == (7 : Int)) (T.need (decide ((0 : Int) ≤ t.I ∧ t.I < (p.L.length : Int))) (T.ite (decide (D.I (List.getD (List.getD p.L t.I.toNat []) (0 + 1) default) ≥ s.I)) (T.leaf (Rd.out Ex.ret [D.b false])) (T.leaf (Rd.again [D.i a.I, D.i b.I, D.i c.I, D.i d.I, D.i e.I, D.i f.I, D.b g.B, D.i h.I, D.b i.B, D.b j.B, D.i k.I, D.b l.B, D.l m.L, D.l n.L, D.l o.L, D.l p.L, D.i q.I, D.i r.I, D.i s.I, D.i (IntKind.wrap IntKind.i64 (t.I + (1 : Int))), D.i u.I, D.i v.I, D.i w.I, D.i x.I, D.i y.I, D.i z.I])))) (T.leaf (Rd.again [D.i a.I, D.i b.I, D.i c.I, D.i d.I, D.i e.I, D.i f.I, D.b g.B, D.i h.I, D.b i.B, D.b j.B, D.i k.I, D.b l.B, D.l m.L, D.l n.L, D.l o.L, D.l p.L, D.i q.I, D.i r.I, D.i s.I, D.i (IntKind.wrap IntKind.i64 (t.I + (1 : Int))), D.i u.I, D.i v.I, D.i w.I, D.i x.I, D.i y.I, D.i z.I])))))) (T.need (decide ((0 : Int) ≤ t.I ∧ t.I < (p.L.length : Int))) (T.ite (D.I (List.getD (List.getD p.L t.I.toNat []) 0 default) == (7 : Int)) (T.need (decide ((0 : Int) ≤ t.I ∧ t.I < (p.L.length : Int))) (T.ite (decide (D.I (List.getD (List.getD p.L t.I.toNat []) (0 + 1) default) ≥ s.I)) (T.leaf (Rd.out Ex.ret [D.b false])) (T.leaf (Rd.again [D.i a.I, D.i b.I, D.i c.I, D.i d.I, D.i e.I, D.i f.I, D.b g.B, D.i h.I, D.b i.B, D.b j.B, D.i k.I, D.b l.B, D.l m.L, D.l n.L, D.l o.L, D.l p.L, D.i q.I, D.i r.I, D.i s.I, D.i (IntKind.wrap IntKind.i64 (t.I + (1 : Int))), D.i u.I, D.i v.I, D.i w.I, D.i x.I, D.i y.I, D.i z.I])))) (T.leaf (Rd.again [D.i a.I, D.i b.I, D.i c.I, D.i d.I, D.i e.I, D.i f.I, D.b g.B, D.i h.I, D.b i.B, D.b j.B, D.i k.I, D.b l.B, D.l m.L, D.l n.L, D.l o.L, D.l p.L, D.i q.I, D.i r.I, D.i s.I, D.i (IntKind.wrap IntKind.i64 (t.I + (1 : Int))), D.i u.I, D.i v.I, D.i w.I, D.i x.I, D.i y.I, D.i z.I])))))) (T.leaf (Rd.out (Ex.exit 2) [D.i a.I, D.i b.I, D.i c.I, D.i d.I, D.i e.I, D.i f.I, D.b g.B, D.i h.I, D.b i.B, D.b j.B, D.i k.I, D.b l.B, D.l m.L, D.l n.L, D.l o.L, D.l p.L, D.i q.I, D.i u.I, D.i v.I, D.i w.I, D.i x.I, D.i y.I, D.i z.I]))) := by kernel_rfl
theorem t43_17 (a b c d e f g h i j k l m n o p q r s t u v w x : D) : (roundT C tab43 43 (loopOf C.P 43 17) l43_17 [a, b, c, d, e, f, g, h, i, j, k, l, m, n, o, p, q, r, s, t, u, v, w, x]).run =
  T.run (T.ite (decide (r.I < s.I)) (T.need (yes (p.L.length ≤ 1000 ∧ (0 : Int) ≤ (0 : Int) ∧ (0 : Int) ≤ (p.L.length : Int))) (T.ite (decide (lstF r.I p.L (Int.toNat (0 : Int)) (p.L.length - Int.toNat (0 : Int)) (-1 : Int) < (0 : Int))) (T.leaf (Rd.out Ex.ret [D.b false])) (T.ite (decide (lstF r.I p.L (Int.toNat (0 : Int)) (p.L.length - Int.toNat (0 : Int)) (-1 : Int) < IntKind.wrap IntKind.i64 (q.I - t.I))) (T.leaf (Rd.out Ex.ret [D.b false])) (T.ite (decide (pstF (4 : Int) r.I p.L (Int.toNat (0 : Int)) (p.L.length - Int.toNat (0 : Int)) (-1 : Int) ≥ (0 : Int))) (T.ite (decide (pstF (4 : Int) r.I p.L (Int.toNat (0 : Int)) (p.L.length - Int.toNat (0 : Int)) (-1 : Int) ≥ pstF (5 : Int) r.I p.L (Int.toNat (0 : Int)) (p.L.length - Int.toNat (0 : Int)) (-1 : Int))) (T.leaf (Rd.out Ex.ret [D.b false])) (T.leaf (Rd.again [D.i a.I, D.i b.I, D.i c.I, D.i d.I, D.i e.I, D.i f.I, D.b g.B, D.i h.I, D.b i.B, D.b j.B, D.i k.I, D.b l.B, D.l m.L, D.l n.L, D.l o.L, D.l p.L, D.i q.I, D.i (IntKind.wrap IntKind.i64 (r.I + (1 : Int))), D.i s.I, D.i t.I, D.i u.I, D.i v.I, D.i w.I, D.i x.I]))) (T.leaf (Rd.again [D.i a.I, D.i b.I, D.i c.I, D.i d.I, D.i e.I, D.i f.I, D.b g.B, D.i h.I, D.b i.B, D.b j.B, D.i k.I, D.b l.B, D.l m.L, D.l n.L, D.l o.L, D.l p.L, D.i q.I, D.i (IntKind.wrap IntKind.i64 (r.I + (1 : Int))), D.i s.I, D.i t.I, D.i u.I, D.i v.I, D.i w.I, D.i x.I])))))) (T.leaf (Rd.out (Ex.exit 4) [D.i a.I, D.i b.I, D.i c.I, D.i d.I, D.i e.I, D.i f.I, D.b g.B, D.i h.I, D.b i.B, D.b j.B, D.i k.I, D.b l.B, D.l m.L, D.l n.L, D.l o.L, D.i s.I, D.i t.I, D.i u.I, D.i v.I, D.i w.I, D.i x.I]))) := by kernel_rfl
theorem t43_21 (a b c d e f g h i j k l m n o p q r s t u v w x y z z26 z27 : D) : (roundT C tab43 43 (loopOf C.P 43 21) l43_21 [a, b, c, d, e, f, g, h, i, j, k, l, m, n, o, p, q, r, s, t, u, v, w, x, y, z, z26, z27]).run =
  T.run (T.ite (decide (v.I < (p.L.length : Int))) (T.need (decide ((0 : Int) ≤ v.I ∧ v.I < (p.L.length : Int))) (T.ite (D.I (List.getD (List.getD p.L v.I.toNat []) (0 + 1 + 1) default) != r.I) (T.leaf (Rd.again [D.i a.I, D.i b.I, D.i c.I, D.i d.I, D.i e.I, D.i f.I, D.b g.B, D.i h.I, D.b i.B, D.b j.B, D.i k.I, D.b l.B, D.l m.L, D.l n.L, D.l o.L, D.l p.L, D.i q.I, D.i r.I, D.i s.I, D.i t.I, D.i u.I, D.i (IntKind.wrap IntKind.i64 (v.I + (1 : Int))), D.i w.I, D.i x.I, D.i y.I, D.i z.I, D.i z26.I, D.i z27.I])) (T.ite (D.I (List.getD (List.getD p.L v.I.toNat []) 0 default) == (3 : Int)) (T.ite (D.I (List.getD (List.getD p.L v.I.toNat []) 0 default) == (4 : Int)) (T.ite (D.I (List.getD (List.getD p.L v.I.toNat []) 0 default) == (5 : Int)) (T.leaf (Rd.again [D.i a.I, D.i b.I, D.i c.I, D.i d.I, D.i e.I, D.i f.I, D.b g.B, D.i h.I, D.b i.B, D.b j.B, D.i k.I, D.b l.B, D.l m.L, D.l n.L, D.l o.L, D.l p.L, D.i q.I, D.i r.I, D.i (if D.I (List.getD (List.getD p.L v.I.toNat []) (0 + 1) default) > s.I then D.I (List.getD (List.getD p.L v.I.toNat []) (0 + 1) default) else s.I), D.i (if D.I (List.getD (List.getD p.L v.I.toNat []) (0 + 1) default) > t.I then D.I (List.getD (List.getD p.L v.I.toNat []) (0 + 1) default) else t.I), D.i (if D.I (List.getD (List.getD p.L v.I.toNat []) (0 + 1) default) > u.I then D.I (List.getD (List.getD p.L v.I.toNat []) (0 + 1) default) else u.I), D.i (IntKind.wrap IntKind.i64 (v.I + (1 : Int))), D.i w.I, D.i x.I, D.i y.I, D.i z.I, D.i z26.I, D.i z27.I])) (T.leaf (Rd.again [D.i a.I, D.i b.I, D.i c.I, D.i d.I, D.i e.I, D.i f.I, D.b g.B, D.i h.I, D.b i.B, D.b j.B, D.i k.I, D.b l.B, D.l m.L, D.l n.L, D.l o.L, D.l p.L, D.i q.I, D.i r.I, D.i (if D.I (List.getD (List.getD p.L v.I.toNat []) (0 + 1) default) > s.I then D.I (List.getD (List.getD p.L v.I.toNat []) (0 + 1) default) else s.I), D.i (if D.I (List.getD (List.getD p.L v.I.toNat []) (0 + 1) default) > t.I then D.I (List.getD (List.getD p.L v.I.toNat []) (0 + 1) default) else t.I), D.i u.I, D.i (IntKind.wrap IntKind.i64 (v.I + (1 : Int))), D.i w.I, D.i x.I, D.i y.I, D.i z.I, D.i z26.I, D.i z27.I]))) (T.ite (D.I (List.getD (List.getD p.L v.I.toNat []) 0 default) == (5 : Int)) (T.leaf (Rd.again [D.i a.I, D.i b.I, D.i c.I, D.i d.I, D.i e.I, D.i f.I, D.b g.B, D.i h.I, D.b i.B, D.b j.B, D.i k.I, D.b l.B, D.l m.L, D.l n.L, D.l o.L, D.l p.L, D.i q.I, D.i r.I, D.i (if D.I (List.getD (List.getD p.L v.I.toNat []) (0 + 1) default) > s.I then D.I (List.getD (List.getD p.L v.I.toNat []) (0 + 1) default) else s.I), D.i t.I, D.i (if D.I (List.getD (List.getD p.L v.I.toNat []) (0 + 1) default) > u.I then D.I (List.getD (List.getD p.L v.I.toNat []) (0 + 1) default) else u.I), D.i (IntKind.wrap IntKind.i64 (v.I + (1 : Int))), D.i w.I, D.i x.I, D.i y.I, D.i z.I, D.i z26.I, D.i z27.I])) (T.leaf (Rd.again [D.i a.I, D.i b.I, D.i c.I, D.i d.I, D.i e.I, D.i f.I, D.b g.B, D.i h.I, D.b i.B, D.b j.B, D.i k.I, D.b l.B, D.l m.L, D.l n.L, D.l o.L, D.l p.L, D.i q.I, D.i r.I, D.i (if D.I (List.getD (List.getD p.L v.I.toNat []) (0 + 1) default) > s.I then D.I (List.getD (List.getD p.L v.I.toNat []) (0 + 1) default) else s.I), D.i t.I, D.i u.I, D.i (IntKind.wrap IntKind.i64 (v.I + (1 : Int))), D.i w.I, D.i x.I, D.i y.I, D.i z.I, D.i z26.I, D.i z27.I])))) (T.ite (D.I (List.getD (List.getD p.L v.I.toNat []) 0 default) == (4 : Int)) (T.ite (D.I (List.getD (List.getD p.L v.I.toNat []) 0 default) == (4 : Int)) (T.ite (D.I (List.getD (List.getD p.L v.I.toNat []) 0 default) == (5 : Int)) (T.leaf (Rd.again [D.i a.I, D.i b.I, D.i c.I, D.i d.I, D.i e.I, D.i f.I, D.b g.B, D.i h.I, D.b i.B, D.b j.B, D.i k.I, D.b l.B, D.l m.L, D.l n.L, D.l o.L, D.l p.L, D.i q.I, D.i r.I, D.i (if D.I (List.getD (List.getD p.L v.I.toNat []) (0 + 1) default) > s.I then D.I (List.getD (List.getD p.L v.I.toNat []) (0 + 1) default) else s.I), D.i (if D.I (List.getD (List.getD p.L v.I.toNat []) (0 + 1) default) > t.I then D.I (List.getD (List.getD p.L v.I.toNat []) (0 + 1) default) else t.I), D.i (if D.I (List.getD (List.getD p.L v.I.toNat []) (0 + 1) default) > u.I then D.I (List.getD (List.getD p.L v.I.toNat []) (0 + 1) default) else u.I), D.i (IntKind.wrap IntKind.i64 (v.I + (1 : Int))), D.i w.I, D.i x.I, D.i y.I, D.i z.I, D.i z26.I, D.i z27.I])) (T.leaf (Rd.again [D.i a.I, D.i b.I, D.i c.I, D.i d.I, D.i e.I, D.i f.I, D.b g.B, D.i h.I, D.b i.B, D.b j.B, D.i k.I, D.b l.B, D.l m.L, D.l n.L, D.l o.L, D.l p.L, D.i q.I, D.i r.I, D.i (if D.I (List.getD (List.getD p.L v.I.toNat []) (0 + 1) default) > s.I then D.I (List.getD (List.getD p.L v.I.toNat []) (0 + 1) default) else s.I), D.i (if D.I (List.getD (List.getD p.L v.I.toNat []) (0 + 1) default) > t.I then D.I (List.getD (List.getD p.L v.I.toNat []) (0 + 1) default) else t.I), D.i u.I, D.i (IntKind.wrap IntKind.i64 (v.I + (1 : Int))), D.i w.I, D.i x.I, D.i y.I, D.i z.I, D.i z26.I, D.i z27.I]))) (T.ite (D.I (List.getD (List.getD p.L v.I.toNat []) 0 default) == (5 : Int)) (T.leaf (Rd.again [D.i a.I, D.i b.I, D.i c.I, D.i d.I, D.i e.I, D.i f.I, D.b g.B, D.i h.I, D.b i.B, D.b j.B, D.i k.I, D.b l.B, D.l m.L, D.l n.L, D.l o.L, D.l p.L, D.i q.I, D.i r.I, D.i (if D.I (List.getD (List.getD p.L v.I.toNat []) (0 + 1) default) > s.I then D.I (List.getD (List.getD p.L v.I.toNat []) (0 + 1) default) else s.I), D.i t.I, D.i (if D.I (List.getD (List.getD p.L v.I.toNat []) (0 + 1) default) > u.I then D.I (List.getD (List.getD p.L v.I.toNat []) (0 + 1) default) else u.I), D.i (IntKind.wrap IntKind.i64 (v.I + (1 : Int))), D.i w.I, D.i x.I, D.i y.I, D.i z.I, D.i z26.I, D.i z27.I])) (T.leaf (Rd.again [D.i a.I, D.i b.I, D.i c.I, D.i d.I, D.i e.I, D.i f.I, D.b g.B, D.i h.I, D.b i.B, D.b j.B, D.i k.I, D.b l.B, D.l m.L, D.l n.L, D.l o.L, D.l p.L, D.i q.I, D.i r.I, D.i (if D.I (List.getD (List.getD p.L v.I.toNat []) (0 + 1) default) > s.I then D.I (List.getD (List.getD p.L v.I.toNat []) (0 + 1) default) else s.I), D.i t.I, D.i u.I, D.i (IntKind.wrap IntKind.i64 (v.I + (1 : Int))), D.i w.I, D.i x.I, D.i y.I, D.i z.I, D.i z26.I, D.i z27.I])))) (T.ite (D.I (List.getD (List.getD p.L v.I.toNat []) 0 default) == (5 : Int)) (T.ite (D.I (List.getD (List.getD p.L v.I.toNat []) 0 default) == (4 : Int)) (T.ite (D.I (List.getD (List.getD p.L v.I.toNat []) 0 default) == (5 : Int)) (T.leaf (Rd.again [D.i a.I, D.i b.I, D.i c.I, D.i d.I, D.i e.I, D.i f.I, D.b g.B, D.i h.I, D.b i.B, D.b j.B, D.i k.I, D.b l.B, D.l m.L, D.l n.L, D.l o.L, D.l p.L, D.i q.I, D.i r.I, D.i (if D.I (List.getD (List.getD p.L v.I.toNat []) (0 + 1) default) > s.I then D.I (List.getD (List.getD p.L v.I.toNat []) (0 + 1) default) else s.I), D.i (if D.I (List.getD (List.getD p.L v.I.toNat []) (0 + 1) default) > t.I then D.I (List.getD (List.getD p.L v.I.toNat []) (0 + 1) default) else t.I), D.i (if D.I (List.getD (List.getD p.L v.I.toNat []) (0 + 1) default) > u.I then D.I (List.getD (List.getD p.L v.I.toNat []) (0 + 1) default) else u.I), D.i (IntKind.wrap IntKind.i64 (v.I + (1 : Int))), D.i w.I, D.i x.I, D.i y.I, D.i z.I, D.i z26.I, D.i z27.I])) (T.leaf (Rd.again [D.i a.I, D.i b.I, D.i c.I, D.i d.I, D.i e.I, D.i f.I, D.b g.B, D.i h.I, D.b i.B, D.b j.B, D.i k.I, D.b l.B, D.l m.L, D.l n.L, D.l o.L, D.l p.L, D.i q.I, D.i r.I, D.i (if D.I (List.getD (List.getD p.L v.I.toNat []) (0 + 1) default) > s.I then D.I (List.getD (List.getD p.L v.I.toNat []) (0 + 1) default) else s.I), D.i (if D.I (List.getD (List.getD p.L v.I.toNat []) (0 + 1) default) > t.I then D.I (List.getD (List.getD p.L v.I.toNat []) (0 + 1) default) else t.I), D.i u.I, D.i (IntKind.wrap IntKind.i64 (v.I + (1 : Int))), D.i w.I, D.i x.I, D.i y.I, D.i z.I, D.i z26.I, D.i z27.I]))) (T.ite (D.I (List.getD (List.getD p.L v.I.toNat []) 0 default) == (5 : Int)) (T.leaf (Rd.again [D.i a.I, D.i b.I, D.i c.I, D.i d.I, D.i e.I, D.i f.I, D.b g.B, D.i h.I, D.b i.B, D.b j.B, D.i k.I, D.b l.B, D.l m.L, D.l n.L, D.l o.L, D.l p.L, D.i q.I, D.i r.I, D.i (if D.I (List.getD (List.getD p.L v.I.toNat []) (0 + 1) default) > s.I then D.I (List.getD (List.getD p.L v.I.toNat []) (0 + 1) default) else s.I), D.i t.I, D.i (if D.I (List.getD (List.getD p.L v.I.toNat []) (0 + 1) default) > u.I then D.I (List.getD (List.getD p.L v.I.toNat []) (0 + 1) default) else u.I), D.i (IntKind.wrap IntKind.i64 (v.I + (1 : Int))), D.i w.I, D.i x.I, D.i y.I, D.i z.I, D.i z26.I, D.i z27.I])) (T.leaf (Rd.again [D.i a.I, D.i b.I, D.i c.I, D.i d.I, D.i e.I, D.i f.I, D.b g.B, D.i h.I, D.b i.B, D.b j.B, D.i k.I, D.b l.B, D.l m.L, D.l n.L, D.l o.L, D.l p.L, D.i q.I, D.i r.I, D.i (if D.I (List.getD (List.getD p.L v.I.toNat []) (0 + 1) default) > s.I then D.I (List.getD (List.getD p.L v.I.toNat []) (0 + 1) default) else s.I), D.i t.I, D.i u.I, D.i (IntKind.wrap IntKind.i64 (v.I + (1 : Int))), D.i w.I, D.i x.I, D.i y.I, D.i z.I, D.i z26.I, D.i z27.I])))) (T.ite (D.I (List.getD (List.getD p.L v.I.toNat []) 0 default) == (8 : Int)) (T.ite (D.I (List.getD (List.getD p.L v.I.toNat []) 0 default) == (4 : Int)) (T.ite (D.I (List.getD (List.getD p.L v.I.toNat []) 0 default) == (5 : Int)) (T.leaf (Rd.again [D.i a.I, D.i b.I, D.i c.I, D.i d.I, D.i e.I, D.i f.I, D.b g.B, D.i h.I, D.b i.B, D.b j.B, D.i k.I, D.b l.B, D.l m.L, D.l n.L, D.l o.L, D.l p.L, D.i q.I, D.i r.I, D.i (if D.I (List.getD (List.getD p.L v.I.toNat []) (0 + 1) default) > s.I then D.I (List.getD (List.getD p.L v.I.toNat []) (0 + 1) default) else s.I), D.i (if D.I (List.getD (List.getD p.L v.I.toNat []) (0 + 1) default) > t.I then D.I (List.getD (List.getD p.L v.I.toNat []) (0 + 1) default) else t.I), D.i (if D.I (List.getD (List.getD p.L v.I.toNat []) (0 + 1) default) > u.I then D.I (List.getD (List.getD p.L v.I.toNat []) (0 + 1) default) else u.I), D.i (IntKind.wrap IntKind.i64 (v.I + (1 : Int))), D.i w.I, D.i x.I, D.i y.I, D.i z.I, D.i z26.I, D.i z27.I])) (T.leaf (Rd.again [D.i a.I, D.i b.I, D.i c.I, D.i d.I, D.i e.I, D.i f.I, D.b g.B, D.i h.I, D.b i.B, D.b j.B, D.i k.I, D.b l.B, D.l m.L, D.l n.L, D.l o.L, D.l p.L, D.i q.I, D.i r.I, D.i (if D.I (List.getD (List.getD p.L v.I.toNat []) (0 + 1) default) > s.I then D.I (List.getD (List.getD p.L v.I.toNat []) (0 + 1) default) else s.I), D.i (if D.I (List.getD (List.getD p.L v.I.toNat []) (0 + 1) default) > t.I then D.I (List.getD (List.getD p.L v.I.toNat []) (0 + 1) default) else t.I), D.i u.I, D.i (IntKind.wrap IntKind.i64 (v.I + (1 : Int))), D.i w.I, D.i x.I, D.i y.I, D.i z.I, D.i z26.I, D.i z27.I]))) (T.ite (D.I (List.getD (List.getD p.L v.I.toNat []) 0 default) == (5 : Int)) (T.leaf (Rd.again [D.i a.I, D.i b.I, D.i c.I, D.i d.I, D.i e.I, D.i f.I, D.b g.B, D.i h.I, D.b i.B, D.b j.B, D.i k.I, D.b l.B, D.l m.L, D.l n.L, D.l o.L, D.l p.L, D.i q.I, D.i r.I, D.i (if D.I (List.getD (List.getD p.L v.I.toNat []) (0 + 1) default) > s.I then D.I (List.getD (List.getD p.L v.I.toNat []) (0 + 1) default) else s.I), D.i t.I, D.i (if D.I (List.getD (List.getD p.L v.I.toNat []) (0 + 1) default) > u.I then D.I (List.getD (List.getD p.L v.I.toNat []) (0 + 1) default) else u.I), D.i (IntKind.wrap IntKind.i64 (v.I + (1 : Int))), D.i w.I, D.i x.I, D.i y.I, D.i z.I, D.i z26.I, D.i z27.I])) (T.leaf (Rd.again [D.i a.I, D.i b.I, D.i c.I, D.i d.I, D.i e.I, D.i f.I, D.b g.B, D.i h.I, D.b i.B, D.b j.B, D.i k.I, D.b l.B, D.l m.L, D.l n.L, D.l o.L, D.l p.L, D.i q.I, D.i r.I, D.i (if D.I (List.getD (List.getD p.L v.I.toNat []) (0 + 1) default) > s.I then D.I (List.getD (List.getD p.L v.I.toNat []) (0 + 1) default) else s.I), D.i t.I, D.i u.I, D.i (IntKind.wrap IntKind.i64 (v.I + (1 : Int))), D.i w.I, D.i x.I, D.i y.I, D.i z.I, D.i z26.I, D.i z27.I])))) (T.ite (D.I (List.getD (List.getD p.L v.I.toNat []) 0 default) == (4 : Int)) (T.ite (D.I (List.getD (List.getD p.L v.I.toNat []) 0 default) == (5 : Int)) (T.leaf (Rd.again [D.i a.I, D.i b.I, D.i c.I, D.i d.I, D.i e.I, D.i f.I, D.b g.B, D.i h.I, D.b i.B, D.b j.B, D.i k.I, D.b l.B, D.l m.L, D.l n.L, D.l o.L, D.l p.L, D.i q.I, D.i r.I, D.i s.I, D.i (if D.I (List.getD (List.getD p.L v.I.toNat []) (0 + 1) default) > t.I then D.I (List.getD (List.getD p.L v.I.toNat []) (0 + 1) default) else t.I), D.i (if D.I (List.getD (List.getD p.L v.I.toNat []) (0 + 1) default) > u.I then D.I (List.getD (List.getD p.L v.I.toNat []) (0 + 1) default) else u.I), D.i (IntKind.wrap IntKind.i64 (v.I + (1 : Int))), D.i w.I, D.i x.I, D.i y.I, D.i z.I, D.i z26.I, D.i z27.I])) (T.leaf (Rd.again [D.i a.I, D.i b.I, D.i c.I, D.i d.I, D.i e.I, D.i f.I, D.b g.B, D.i h.I, D.b i.B, D.b j.B, D.i k.I, D.b l.B, D.l m.L, D.l n.L, D.l o.L, D.l p.L, D.i q.I, D.i r.I, D.i s.I, D.i (if D.I (List.getD (List.getD p.L v.I.toNat []) (0 + 1) default) > t.I then D.I (List.getD (List.getD p.L v.I.toNat []) (0 + 1) default) else t.I), D.i u.I, D.i (IntKind.wrap IntKind.i64 (v.I + (1 : Int))), D.i w.I, D.i x.I, D.i y.I, D.i z.I, D.i z26.I, D.i z27.I]))) (T.ite (D.I (List.getD (List.getD p.L v.I.toNat []) 0 default) == (5 : Int)) (T.leaf (Rd.again [D.i a.I, D.i b.I, D.i c.I, D.i d.I, D.i e.I, D.i f.I, D.b g.B, D.i h.I, D.b i.B, D.b j.B, D.i k.I, D.b l.B, D.l m.L, D.l n.L, D.l o.L, D.l p.L, D.i q.I, D.i r.I, D.i s.I, D.i t.I, D.i (if D.I (List.getD (List.getD p.L v.I.toNat []) (0 + 1) default) > u.I then D.I (List.getD (List.getD p.L v.I.toNat []) (0 + 1) default) else u.I), D.i (IntKind.wrap IntKind.i64 (v.I + (1 : Int))), D.i w.I, D.i x.I, D.i y.I, D.i z.I, D.i z26.I, D.i z27.I])) (T.leaf (Rd.again [D.i a.I, D.i b.I, D.i c.I, D.i d.I, D.i e.I, D.i f.I, D.b g.B, D.i h.I, D.b i.B, D.b j.B, D.i k.I, D.b l.B, D.l m.L, D.l n.L, D.l o.L, D.l p.L, D.i q.I, D.i r.I, D.i s.I, D.i t.I, D.i u.I, D.i (IntKind.wrap IntKind.i64 (v.I + (1 : Int))), D.i w.I, D.i x.I, D.i y.I, D.i z.I, D.i z26.I, D.i z27.I])))))))))) (T.leaf (Rd.out (Ex.exit 6) [D.i a.I, D.i b.I, D.i c.I, D.i d.I, D.i e.I, D.i f.I, D.b g.B, D.i h.I, D.b i.B, D.b j.B, D.i k.I, D.b l.B, D.l m.L, D.l n.L, D.l o.L, D.l p.L, D.i q.I, D.i r.I, D.i s.I, D.i t.I, D.i u.I, D.i w.I, D.i x.I, D.i y.I, D.i z.I, D.i z26.I, D.i z27.I]))) := by kernel_rfl
theorem t43_34 (a b c d e f g h i j k l m n o p q r s t u v : D) : (roundT C tab43 43 (loopOf C.P 43 34) l43_34 [a, b, c, d, e, f, g, h, i, j, k, l, m, n, o, p, q, r, s, t, u, v]).run =
  T.run (T.ite (decide (p.I < v.I)) (T.need (yes ((1 : Int) ≤ f.I ∧ f.I ≤ (200 : Int) ∧ (o.L.length : Int) = f.I)) (T.ite (decide ((0 : Int) ≤ p.I ∧ p.I ≤ f.I - (1 : Int))) (T.ite (bx (List.getD o.L p.I.toNat []) 0) (T.ite (!bx (List.getD o.L p.I.toNat []) 3) (T.ite (decide (ix (List.getD o.L p.I.toNat []) 2 < IntKind.wrap IntKind.i64 (s.I - (1 : Int)))) (T.leaf (Rd.out Ex.ret [D.b false])) (T.leaf (Rd.again [D.i a.I, D.i b.I, D.i c.I, D.i d.I, D.i e.I, D.i f.I, D.b g.B, D.i h.I, D.b i.B, D.b j.B, D.i k.I, D.b l.B, D.l m.L, D.l n.L, D.l o.L, D.i (IntKind.wrap IntKind.i64 (p.I + (1 : Int))), D.i q.I, D.i r.I, D.i s.I, D.i t.I, D.i u.I, D.i v.I]))) (T.leaf (Rd.again [D.i a.I, D.i b.I, D.i c.I, D.i d.I, D.i e.I, D.i f.I, D.b g.B, D.i h.I, D.b i.B, D.b j.B, D.i k.I, D.b l.B, D.l m.L, D.l n.L, D.l o.L, D.i (IntKind.wrap IntKind.i64 (p.I + (1 : Int))), D.i q.I, D.i r.I, D.i s.I, D.i t.I, D.i u.I, D.i v.I]))) (T.leaf (Rd.again [D.i a.I, D.i b.I, D.i c.I, D.i d.I, D.i e.I, D.i f.I, D.b g.B, D.i h.I, D.b i.B, D.b j.B, D.i k.I, D.b l.B, D.l m.L, D.l n.L, D.l o.L, D.i (IntKind.wrap IntKind.i64 (p.I + (1 : Int))), D.i q.I, D.i r.I, D.i s.I, D.i t.I, D.i u.I, D.i v.I]))) (T.leaf (Rd.out Ex.ret [D.b false])))) (T.leaf (Rd.out (Ex.exit 8) []))) := by kernel_rfl
end Go.Proofs.Ytgmefblkmidglaa
namespace Go.Proofs.Ytgmefblkmidglaa
open Go.Lite
set_option maxRecDepth 100000
set_option linter.unusedVariables false
set_option linter.unusedSimpArgs false
theorem knd_step {q t t' : Int} {ev : List (List D)} {k : Nat} (hk : k < ev.length) (e : (if ix (ev.getD k []) 0 = q then mxI t (ix (ev.getD k []) 1) else t) = t') : kndF q ev k (ev.length - k) t = kndF q ev (k + 1) (ev.length - (k + 1)) t' := by
  rw [show ev.length - k = (ev.length - (k + 1)) + 1 by omega, ← e]
  rfl
theorem pst_step {q p t t' : Int} {ev : List (List D)} {k : Nat} (hk : k < ev.length) (e : (if ix (ev.getD k []) 2 = p ∧ ix (ev.getD k []) 0 = q then mxI t (ix (ev.getD k []) 1) else t) = t') : pstF q p ev k (ev.length - k) t = pstF q p ev (k + 1) (ev.length - (k + 1)) t' := by
  rw [show ev.length - k = (ev.length - (k + 1)) + 1 by omega, ← e]
  rfl
theorem lst_step' {p t t' : Int} {ev : List (List D)} {k : Nat} (hk : k < ev.length) (e : lst1 p (ev.getD k []) t = t') : lstF p ev k (ev.length - k) t = lstF p ev (k + 1) (ev.length - (k + 1)) t' := by
  rw [show ev.length - k = (ev.length - (k + 1)) + 1 by omega, ← e]
  rfl
theorem ok43_3 (n : Nat) : LoopSim C (n + 2) 43 (loopOf C.P 43 3) (mkL l43_3 G43_3) := by
  refine loop_ofK hC (sp := sp43) (lp := lp43) (sw := sw43) ⟨ok42 n, trivial⟩ trivial 0 [] (by kernel_rfl) rfl (fun k hk => by cases hk) (by kernel_rfl) (fun ds => (((ds.getD 15 default).L.length : Int) - (ds.getD 19 default).I).toNat) fun ds rr h => ?_
  unfold G43_3 at h
  split at h
  · rename_i p0 p1 p2 p3 p4 p5 ov os oh cv cs ch rd po ca ev t op co i w0 w1 w2 w3 w4 w5
    obtain ⟨hp, h⟩ := need_some h
    rw [yes_iff] at hp
    obtain ⟨hl, hi0, hi1⟩ := hp
    have hb := big_eq
    refine ⟨by rw [fuelC]; simp only [List.getD_cons_succ, List.getD_cons_zero]; omega, ?_⟩
    rw [show (roundTK C (mkTab sp43 lp43 sw43) 43 (loopOf C.P 43 3) 0 l43_3 [p0, p1, p2, p3, p4, p5, ov, os, oh, cv, cs, ch, rd, po, ca, ev, t, op, co, i, w0, w1, w2, w3, w4, w5]).run = _ from t43_3 p0 p1 p2 p3 p4 p5 ov os oh cv cs ch rd po ca ev t op co i w0 w1 w2 w3 w4 w5]
    obtain ⟨k, hk⟩ : ∃ k : Nat, i.I = k := ⟨i.I.toNat, by omega⟩
    simp only [hk, Int.toNat_natCast] at h hi0 hi1 ⊢
    refine rd_if (fun hlt => ?_) fun hge => rd_out ?_
    · have hk2 : k < ev.L.length := by omega
      have hd : 0 ≤ (k : Int) ∧ (k : Int) < (ev.L.length : Int) := by omega
      rw [wrap_succ (by omega)]
      have hm : ((ev.L.length : Int) - ((k + 1 : Nat) : Int)).toNat < ((ev.L.length : Int) - i.I).toNat := by omega
      have done : ∀ (a b : D), (if ix (ev.L.getD k []) 0 = 1 then mxI op.I (ix (ev.L.getD k []) 1) else op.I) = a.I → (if ix (ev.L.getD k []) 0 = 6 then mxI co.I (ix (ev.L.getD k []) 1) else co.I) = b.I → (G43_3 [.i p0.I, .i p1.I, .i p2.I, .i p3.I, .i p4.I, .i p5.I, .b ov.B, .i os.I, .b oh.B, .b cv.B, .i cs.I, .b ch.B, .l rd.L, .l po.L, .l ca.L, .l ev.L, .i t.I, a, b, .i ((k + 1 : Nat) : Int), .i w0.I, .i w1.I, .i w2.I, .i w3.I, .i w4.I, .i w5.I]).run = some rr := fun a b e1 e2 => by
        rw [knd_step hk2 e1, knd_step hk2 e2] at h
        exact (need_yes ⟨hl, by simp only [I_i]; omega, by simp only [I_i, L_l]; omega⟩).trans h
      refine rd_dec hd (rd_ite (fun c1 => rd_dec hd (rd_dec hd (rd_ite (fun c6 => ?_) fun c6 => ?_))) fun c1 => rd_dec hd (rd_ite (fun c6 => rd_dec hd ?_) fun c6 => ?_))
      · exact False.elim (by have := eq_of_beq c1; have := eq_of_beq c6; omega)
      · exact rd_again (done (.i _) (.i _) (if_pos (eq_of_beq c1)) (if_neg (ne_of_beq_false c6))) hm
      · exact rd_again (done (.i _) (.i _) (if_neg (ne_of_beq_false c1)) (if_pos (eq_of_beq c6))) hm
      · exact rd_again (done (.i _) (.i _) (if_neg (ne_of_beq_false c1)) (if_neg (ne_of_beq_false c6))) hm
    · rw [← h, show ev.L.length - k = 0 by omega]
      rfl
  · cases h
theorem ok43_12 (n : Nat) : LoopSim C (n + 2) 43 (loopOf C.P 43 12) (mkL l43_12 G43_12) := by
  refine loop_ofK hC (sp := sp43) (lp := lp43) (sw := sw43) ⟨ok42 n, trivial⟩ trivial 0 [] (by kernel_rfl) rfl (fun k hk => by cases hk) (by kernel_rfl) (fun ds => (((ds.getD 15 default).L.length : Int) - (ds.getD 19 default).I).toNat) fun ds rr h => ?_
  unfold G43_12 at h
  split at h
  · rename_i p0 p1 p2 p3 p4 p5 ov os oh cv cs ch rd po ca ev t op co i w0 w1 w2 w3 w4 w5
    obtain ⟨hp, h⟩ := need_some h
    rw [yes_iff] at hp
    obtain ⟨hl, hi0, hi1⟩ := hp
    have hb := big_eq
    refine ⟨by rw [fuelC]; simp only [List.getD_cons_succ, List.getD_cons_zero]; omega, ?_⟩
    rw [show (roundTK C (mkTab sp43 lp43 sw43) 43 (loopOf C.P 43 12) 0 l43_12 [p0, p1, p2, p3, p4, p5, ov, os, oh, cv, cs, ch, rd, po, ca, ev, t, op, co, i, w0, w1, w2, w3, w4, w5]).run = _ from t43_12 p0 p1 p2 p3 p4 p5 ov os oh cv cs ch rd po ca ev t op co i w0 w1 w2 w3 w4 w5]
    obtain ⟨k, hk⟩ : ∃ k : Nat, i.I = k := ⟨i.I.toNat, by omega⟩
    simp only [hk, Int.toNat_natCast] at h hi0 hi1 ⊢
    refine rd_if (fun hlt => ?_) fun hge => rd_out (all_end h (by omega))
    have hk2 : k < ev.L.length := by omega
    have hd : 0 ≤ (k : Int) ∧ (k : Int) < (ev.L.length : Int) := by omega
    rw [wrap_succ (by omega)]
    have hm : ((ev.L.length : Int) - ((k + 1 : Nat) : Int)).toNat < ((ev.L.length : Int) - i.I).toNat := by omega
    obtain ⟨hf, ht⟩ := all_step h hk2
    have done : okE op.I co.I ev.L k = true → (G43_12 [.i p0.I, .i p1.I, .i p2.I, .i p3.I, .i p4.I, .i p5.I, .b ov.B, .i os.I, .b oh.B, .b cv.B, .i cs.I, .b ch.B, .l rd.L, .l po.L, .l ca.L, .l ev.L, .i t.I, .i op.I, .i co.I, .i ((k + 1 : Nat) : Int), .i w0.I, .i w1.I, .i w2.I, .i w3.I, .i w4.I, .i w5.I]).run = some rr := fun e => (need_yes ⟨hl, by simp only [I_i]; omega, by simp only [I_i, L_l]; omega⟩).trans (ht e)
    have ee : okE op.I co.I ev.L k = !((ix (ev.L.getD k []) 0 == 2 && decide (ix (ev.L.getD k []) 1 ≥ op.I)) || (ix (ev.L.getD k []) 0 == 7 && decide (ix (ev.L.getD k []) 1 ≥ co.I))) := rfl
    refine rd_dec hd (rd_ite (fun c1 => rd_dec hd (rd_if (fun c2 => rd_out (hf ?_)) fun c2 => rd_dec hd (rd_ite (fun c3 => rd_dec hd ?_) fun c3 => rd_again (done ?_) hm))) fun c1 => rd_dec hd (rd_ite (fun c3 => rd_dec hd (rd_if (fun c4 => rd_out (hf ?_)) fun c4 => rd_again (done ?_) hm)) fun c3 => rd_again (done ?_) hm))
    · rw [ee, show (ix (ev.L.getD k []) 0 == 2) = true from c1, decide_eq_true (show ix (ev.L.getD k []) 1 ≥ op.I from c2)]; rfl
    · exact False.elim (by have := eq_of_beq c1; have := eq_of_beq c3; omega)
    · rw [ee, show (ix (ev.L.getD k []) 0 == 2) = true from c1, decide_eq_false (show ¬ ix (ev.L.getD k []) 1 ≥ op.I from c2), show (ix (ev.L.getD k []) 0 == 7) = false from c3]; rfl
    · rw [ee, show (ix (ev.L.getD k []) 0 == 2) = false from c1, show (ix (ev.L.getD k []) 0 == 7) = true from c3, decide_eq_true (show ix (ev.L.getD k []) 1 ≥ co.I from c4)]; rfl
    · rw [ee, show (ix (ev.L.getD k []) 0 == 2) = false from c1, show (ix (ev.L.getD k []) 0 == 7) = true from c3, decide_eq_false (show ¬ ix (ev.L.getD k []) 1 ≥ co.I from c4)]; rfl
    · rw [ee, show (ix (ev.L.getD k []) 0 == 2) = false from c1, show (ix (ev.L.getD k []) 0 == 7) = false from c3]; rfl
  · cases h
theorem eq_of_bneF {a b : Int} (h : (a != b) = false) : a = b := by simpa using h
theorem ne_of_bneT {a b : Int} (h : (a != b) = true) : ¬ a = b := by simpa using h
theorem ok43_21 (n : Nat) : LoopSim C (n + 2) 43 (loopOf C.P 43 21) (mkL l43_21 G43_21) := by
  refine loop_ofK hC (sp := sp43) (lp := lp43) (sw := sw43) ⟨ok42 n, trivial⟩ trivial 0 [] (by kernel_rfl) rfl (fun k hk => by cases hk) (by kernel_rfl) (fun ds => (((ds.getD 15 default).L.length : Int) - (ds.getD 21 default).I).toNat) fun ds rr h => ?_
  unfold G43_21 at h
  split at h
  · rename_i p0 p1 p2 p3 p4 p5 ov os oh cv cs ch rd po ca ev t k la re gr i w0 w1 w2 w3 w4 w5
    obtain ⟨hp, h⟩ := need_some h
    rw [yes_iff] at hp
    obtain ⟨hl, hi0, hi1⟩ := hp
    have hb := big_eq
    refine ⟨by rw [fuelC]; simp only [List.getD_cons_succ, List.getD_cons_zero]; omega, ?_⟩
    rw [show (roundTK C (mkTab sp43 lp43 sw43) 43 (loopOf C.P 43 21) 0 l43_21 [p0, p1, p2, p3, p4, p5, ov, os, oh, cv, cs, ch, rd, po, ca, ev, t, k, la, re, gr, i, w0, w1, w2, w3, w4, w5]).run = _ from t43_21 p0 p1 p2 p3 p4 p5 ov os oh cv cs ch rd po ca ev t k la re gr i w0 w1 w2 w3 w4 w5]
    obtain ⟨j, hk⟩ : ∃ j : Nat, i.I = j := ⟨i.I.toNat, by omega⟩
    simp only [hk, Int.toNat_natCast] at h hi0 hi1 ⊢
    exact rd_if (fun hlt => by
      have hk2 : j < ev.L.length := by omega
      have hd : 0 ≤ (j : Int) ∧ (j : Int) < (ev.L.length : Int) := by omega
      rw [wrap_succ (by omega)]
      have hm : ((ev.L.length : Int) - ((j + 1 : Nat) : Int)).toNat < ((ev.L.length : Int) - i.I).toNat := by omega
      have done : ∀ (a b c : D), lst1 k.I (ev.L.getD j []) la.I = a.I → (if ix (ev.L.getD j []) 2 = k.I ∧ ix (ev.L.getD j []) 0 = 4 then mxI re.I (ix (ev.L.getD j []) 1) else re.I) = b.I → (if ix (ev.L.getD j []) 2 = k.I ∧ ix (ev.L.getD j []) 0 = 5 then mxI gr.I (ix (ev.L.getD j []) 1) else gr.I) = c.I → (G43_21 [.i p0.I, .i p1.I, .i p2.I, .i p3.I, .i p4.I, .i p5.I, .b ov.B, .i os.I, .b oh.B, .b cv.B, .i cs.I, .b ch.B, .l rd.L, .l po.L, .l ca.L, .l ev.L, .i t.I, .i k.I, a, b, c, .i ((j + 1 : Nat) : Int), .i w0.I, .i w1.I, .i w2.I, .i w3.I, .i w4.I, .i w5.I]).run = some rr := fun a b c e1 e2 e3 => by
        rw [lst_step' hk2 e1, pst_step hk2 e2, pst_step hk2 e3] at h
        exact (need_yes ⟨hl, by simp only [I_i]; omega, by simp only [I_i, L_l]; omega⟩).trans h
      exact rd_dec hd (rd_ite (fun c1 => rd_again (done (.i _) (.i _) (.i _) (by have fc1 : ¬ ix (ev.L.getD j []) 2 = k.I := ne_of_bneT c1; exact if_neg (fun h => by have := h.1; have := h.2; omega)) (by have fc1 : ¬ ix (ev.L.getD j []) 2 = k.I := ne_of_bneT c1; exact if_neg (fun h => by have := h.1; have := h.2; omega)) (by have fc1 : ¬ ix (ev.L.getD j []) 2 = k.I := ne_of_bneT c1; exact if_neg (fun h => by have := h.1; have := h.2; omega))) hm) fun c1 =>
        rd_ite (fun c2 => rd_ite (fun c3 => rd_ite (fun c4 => False.elim (by have fc1 : ix (ev.L.getD j []) 2 = k.I := eq_of_bneF c1; have fc2 : ix (ev.L.getD j []) 0 = 3 := eq_of_beq c2; have fc3 : ix (ev.L.getD j []) 0 = 4 := eq_of_beq c3; have fc4 : ix (ev.L.getD j []) 0 = 5 := eq_of_beq c4; omega)) fun c4 =>
              False.elim (by have fc1 : ix (ev.L.getD j []) 2 = k.I := eq_of_bneF c1; have fc2 : ix (ev.L.getD j []) 0 = 3 := eq_of_beq c2; have fc3 : ix (ev.L.getD j []) 0 = 4 := eq_of_beq c3; have fc4 : ¬ ix (ev.L.getD j []) 0 = 5 := ne_of_beq_false c4; omega)) fun c3 =>
            rd_ite (fun c5 => False.elim (by have fc1 : ix (ev.L.getD j []) 2 = k.I := eq_of_bneF c1; have fc2 : ix (ev.L.getD j []) 0 = 3 := eq_of_beq c2; have fc3 : ¬ ix (ev.L.getD j []) 0 = 4 := ne_of_beq_false c3; have fc5 : ix (ev.L.getD j []) 0 = 5 := eq_of_beq c5; omega)) fun c5 =>
              rd_again (done (.i _) (.i _) (.i _) (by have fc1 : ix (ev.L.getD j []) 2 = k.I := eq_of_bneF c1; have fc2 : ix (ev.L.getD j []) 0 = 3 := eq_of_beq c2; have fc3 : ¬ ix (ev.L.getD j []) 0 = 4 := ne_of_beq_false c3; have fc5 : ¬ ix (ev.L.getD j []) 0 = 5 := ne_of_beq_false c5; exact if_pos ⟨by assumption, by omega⟩) (by have fc1 : ix (ev.L.getD j []) 2 = k.I := eq_of_bneF c1; have fc2 : ix (ev.L.getD j []) 0 = 3 := eq_of_beq c2; have fc3 : ¬ ix (ev.L.getD j []) 0 = 4 := ne_of_beq_false c3; have fc5 : ¬ ix (ev.L.getD j []) 0 = 5 := ne_of_beq_false c5; exact if_neg (fun h => by have := h.1; have := h.2; omega)) (by have fc1 : ix (ev.L.getD j []) 2 = k.I := eq_of_bneF c1; have fc2 : ix (ev.L.getD j []) 0 = 3 := eq_of_beq c2; have fc3 : ¬ ix (ev.L.getD j []) 0 = 4 := ne_of_beq_false c3; have fc5 : ¬ ix (ev.L.getD j []) 0 = 5 := ne_of_beq_false c5; exact if_neg (fun h => by have := h.1; have := h.2; omega))) hm) fun c2 =>
          rd_ite (fun c6 => rd_ite (fun c7 => rd_ite (fun c8 => False.elim (by have fc1 : ix (ev.L.getD j []) 2 = k.I := eq_of_bneF c1; have fc2 : ¬ ix (ev.L.getD j []) 0 = 3 := ne_of_beq_false c2; have fc6 : ix (ev.L.getD j []) 0 = 4 := eq_of_beq c6; have fc7 : ix (ev.L.getD j []) 0 = 4 := eq_of_beq c7; have fc8 : ix (ev.L.getD j []) 0 = 5 := eq_of_beq c8; omega)) fun c8 =>
                rd_again (done (.i _) (.i _) (.i _) (by have fc1 : ix (ev.L.getD j []) 2 = k.I := eq_of_bneF c1; have fc2 : ¬ ix (ev.L.getD j []) 0 = 3 := ne_of_beq_false c2; have fc6 : ix (ev.L.getD j []) 0 = 4 := eq_of_beq c6; have fc7 : ix (ev.L.getD j []) 0 = 4 := eq_of_beq c7; have fc8 : ¬ ix (ev.L.getD j []) 0 = 5 := ne_of_beq_false c8; exact if_pos ⟨by assumption, by omega⟩) (by have fc1 : ix (ev.L.getD j []) 2 = k.I := eq_of_bneF c1; have fc2 : ¬ ix (ev.L.getD j []) 0 = 3 := ne_of_beq_false c2; have fc6 : ix (ev.L.getD j []) 0 = 4 := eq_of_beq c6; have fc7 : ix (ev.L.getD j []) 0 = 4 := eq_of_beq c7; have fc8 : ¬ ix (ev.L.getD j []) 0 = 5 := ne_of_beq_false c8; exact if_pos ⟨by assumption, by omega⟩) (by have fc1 : ix (ev.L.getD j []) 2 = k.I := eq_of_bneF c1; have fc2 : ¬ ix (ev.L.getD j []) 0 = 3 := ne_of_beq_false c2; have fc6 : ix (ev.L.getD j []) 0 = 4 := eq_of_beq c6; have fc7 : ix (ev.L.getD j []) 0 = 4 := eq_of_beq c7; have fc8 : ¬ ix (ev.L.getD j []) 0 = 5 := ne_of_beq_false c8; exact if_neg (fun h => by have := h.1; have := h.2; omega))) hm) fun c7 =>
              rd_ite (fun c9 => False.elim (by have fc1 : ix (ev.L.getD j []) 2 = k.I := eq_of_bneF c1; have fc2 : ¬ ix (ev.L.getD j []) 0 = 3 := ne_of_beq_false c2; have fc6 : ix (ev.L.getD j []) 0 = 4 := eq_of_beq c6; have fc7 : ¬ ix (ev.L.getD j []) 0 = 4 := ne_of_beq_false c7; have fc9 : ix (ev.L.getD j []) 0 = 5 := eq_of_beq c9; omega)) fun c9 =>
                False.elim (by have fc1 : ix (ev.L.getD j []) 2 = k.I := eq_of_bneF c1; have fc2 : ¬ ix (ev.L.getD j []) 0 = 3 := ne_of_beq_false c2; have fc6 : ix (ev.L.getD j []) 0 = 4 := eq_of_beq c6; have fc7 : ¬ ix (ev.L.getD j []) 0 = 4 := ne_of_beq_false c7; have fc9 : ¬ ix (ev.L.getD j []) 0 = 5 := ne_of_beq_false c9; omega)) fun c6 =>
            rd_ite (fun c10 => rd_ite (fun c11 => rd_ite (fun c12 => False.elim (by have fc1 : ix (ev.L.getD j []) 2 = k.I := eq_of_bneF c1; have fc2 : ¬ ix (ev.L.getD j []) 0 = 3 := ne_of_beq_false c2; have fc6 : ¬ ix (ev.L.getD j []) 0 = 4 := ne_of_beq_false c6; have fc10 : ix (ev.L.getD j []) 0 = 5 := eq_of_beq c10; have fc11 : ix (ev.L.getD j []) 0 = 4 := eq_of_beq c11; have fc12 : ix (ev.L.getD j []) 0 = 5 := eq_of_beq c12; omega)) fun c12 =>
                  False.elim (by have fc1 : ix (ev.L.getD j []) 2 = k.I := eq_of_bneF c1; have fc2 : ¬ ix (ev.L.getD j []) 0 = 3 := ne_of_beq_false c2; have fc6 : ¬ ix (ev.L.getD j []) 0 = 4 := ne_of_beq_false c6; have fc10 : ix (ev.L.getD j []) 0 = 5 := eq_of_beq c10; have fc11 : ix (ev.L.getD j []) 0 = 4 := eq_of_beq c11; have fc12 : ¬ ix (ev.L.getD j []) 0 = 5 := ne_of_beq_false c12; omega)) fun c11 =>
                rd_ite (fun c13 => rd_again (done (.i _) (.i _) (.i _) (by have fc1 : ix (ev.L.getD j []) 2 = k.I := eq_of_bneF c1; have fc2 : ¬ ix (ev.L.getD j []) 0 = 3 := ne_of_beq_false c2; have fc6 : ¬ ix (ev.L.getD j []) 0 = 4 := ne_of_beq_false c6; have fc10 : ix (ev.L.getD j []) 0 = 5 := eq_of_beq c10; have fc11 : ¬ ix (ev.L.getD j []) 0 = 4 := ne_of_beq_false c11; have fc13 : ix (ev.L.getD j []) 0 = 5 := eq_of_beq c13; exact if_pos ⟨by assumption, by omega⟩) (by have fc1 : ix (ev.L.getD j []) 2 = k.I := eq_of_bneF c1; have fc2 : ¬ ix (ev.L.getD j []) 0 = 3 := ne_of_beq_false c2; have fc6 : ¬ ix (ev.L.getD j []) 0 = 4 := ne_of_beq_false c6; have fc10 : ix (ev.L.getD j []) 0 = 5 := eq_of_beq c10; have fc11 : ¬ ix (ev.L.getD j []) 0 = 4 := ne_of_beq_false c11; have fc13 : ix (ev.L.getD j []) 0 = 5 := eq_of_beq c13; exact if_neg (fun h => by have := h.1; have := h.2; omega)) (by have fc1 : ix (ev.L.getD j []) 2 = k.I := eq_of_bneF c1; have fc2 : ¬ ix (ev.L.getD j []) 0 = 3 := ne_of_beq_false c2; have fc6 : ¬ ix (ev.L.getD j []) 0 = 4 := ne_of_beq_false c6; have fc10 : ix (ev.L.getD j []) 0 = 5 := eq_of_beq c10; have fc11 : ¬ ix (ev.L.getD j []) 0 = 4 := ne_of_beq_false c11; have fc13 : ix (ev.L.getD j []) 0 = 5 := eq_of_beq c13; exact if_pos ⟨by assumption, by omega⟩)) hm) fun c13 =>
                  False.elim (by have fc1 : ix (ev.L.getD j []) 2 = k.I := eq_of_bneF c1; have fc2 : ¬ ix (ev.L.getD j []) 0 = 3 := ne_of_beq_false c2; have fc6 : ¬ ix (ev.L.getD j []) 0 = 4 := ne_of_beq_false c6; have fc10 : ix (ev.L.getD j []) 0 = 5 := eq_of_beq c10; have fc11 : ¬ ix (ev.L.getD j []) 0 = 4 := ne_of_beq_false c11; have fc13 : ¬ ix (ev.L.getD j []) 0 = 5 := ne_of_beq_false c13; omega)) fun c10 =>
              rd_ite (fun c14 => rd_ite (fun c15 => rd_ite (fun c16 => False.elim (by have fc1 : ix (ev.L.getD j []) 2 = k.I := eq_of_bneF c1; have fc2 : ¬ ix (ev.L.getD j []) 0 = 3 := ne_of_beq_false c2; have fc6 : ¬ ix (ev.L.getD j []) 0 = 4 := ne_of_beq_false c6; have fc10 : ¬ ix (ev.L.getD j []) 0 = 5 := ne_of_beq_false c10; have fc14 : ix (ev.L.getD j []) 0 = 8 := eq_of_beq c14; have fc15 : ix (ev.L.getD j []) 0 = 4 := eq_of_beq c15; have fc16 : ix (ev.L.getD j []) 0 = 5 := eq_of_beq c16; omega)) fun c16 =>
                    False.elim (by have fc1 : ix (ev.L.getD j []) 2 = k.I := eq_of_bneF c1; have fc2 : ¬ ix (ev.L.getD j []) 0 = 3 := ne_of_beq_false c2; have fc6 : ¬ ix (ev.L.getD j []) 0 = 4 := ne_of_beq_false c6; have fc10 : ¬ ix (ev.L.getD j []) 0 = 5 := ne_of_beq_false c10; have fc14 : ix (ev.L.getD j []) 0 = 8 := eq_of_beq c14; have fc15 : ix (ev.L.getD j []) 0 = 4 := eq_of_beq c15; have fc16 : ¬ ix (ev.L.getD j []) 0 = 5 := ne_of_beq_false c16; omega)) fun c15 =>
                  rd_ite (fun c17 => False.elim (by have fc1 : ix (ev.L.getD j []) 2 = k.I := eq_of_bneF c1; have fc2 : ¬ ix (ev.L.getD j []) 0 = 3 := ne_of_beq_false c2; have fc6 : ¬ ix (ev.L.getD j []) 0 = 4 := ne_of_beq_false c6; have fc10 : ¬ ix (ev.L.getD j []) 0 = 5 := ne_of_beq_false c10; have fc14 : ix (ev.L.getD j []) 0 = 8 := eq_of_beq c14; have fc15 : ¬ ix (ev.L.getD j []) 0 = 4 := ne_of_beq_false c15; have fc17 : ix (ev.L.getD j []) 0 = 5 := eq_of_beq c17; omega)) fun c17 =>
                    rd_again (done (.i _) (.i _) (.i _) (by have fc1 : ix (ev.L.getD j []) 2 = k.I := eq_of_bneF c1; have fc2 : ¬ ix (ev.L.getD j []) 0 = 3 := ne_of_beq_false c2; have fc6 : ¬ ix (ev.L.getD j []) 0 = 4 := ne_of_beq_false c6; have fc10 : ¬ ix (ev.L.getD j []) 0 = 5 := ne_of_beq_false c10; have fc14 : ix (ev.L.getD j []) 0 = 8 := eq_of_beq c14; have fc15 : ¬ ix (ev.L.getD j []) 0 = 4 := ne_of_beq_false c15; have fc17 : ¬ ix (ev.L.getD j []) 0 = 5 := ne_of_beq_false c17; exact if_pos ⟨by assumption, by omega⟩) (by have fc1 : ix (ev.L.getD j []) 2 = k.I := eq_of_bneF c1; have fc2 : ¬ ix (ev.L.getD j []) 0 = 3 := ne_of_beq_false c2; have fc6 : ¬ ix (ev.L.getD j []) 0 = 4 := ne_of_beq_false c6; have fc10 : ¬ ix (ev.L.getD j []) 0 = 5 := ne_of_beq_false c10; have fc14 : ix (ev.L.getD j []) 0 = 8 := eq_of_beq c14; have fc15 : ¬ ix (ev.L.getD j []) 0 = 4 := ne_of_beq_false c15; have fc17 : ¬ ix (ev.L.getD j []) 0 = 5 := ne_of_beq_false c17; exact if_neg (fun h => by have := h.1; have := h.2; omega)) (by have fc1 : ix (ev.L.getD j []) 2 = k.I := eq_of_bneF c1; have fc2 : ¬ ix (ev.L.getD j []) 0 = 3 := ne_of_beq_false c2; have fc6 : ¬ ix (ev.L.getD j []) 0 = 4 := ne_of_beq_false c6; have fc10 : ¬ ix (ev.L.getD j []) 0 = 5 := ne_of_beq_false c10; have fc14 : ix (ev.L.getD j []) 0 = 8 := eq_of_beq c14; have fc15 : ¬ ix (ev.L.getD j []) 0 = 4 := ne_of_beq_false c15; have fc17 : ¬ ix (ev.L.getD j []) 0 = 5 := ne_of_beq_false c17; exact if_neg (fun h => by have := h.1; have := h.2; omega))) hm) fun c14 =>
                rd_ite (fun c18 => rd_ite (fun c19 => False.elim (by have fc1 : ix (ev.L.getD j []) 2 = k.I := eq_of_bneF c1; have fc2 : ¬ ix (ev.L.getD j []) 0 = 3 := ne_of_beq_false c2; have fc6 : ¬ ix (ev.L.getD j []) 0 = 4 := ne_of_beq_false c6; have fc10 : ¬ ix (ev.L.getD j []) 0 = 5 := ne_of_beq_false c10; have fc14 : ¬ ix (ev.L.getD j []) 0 = 8 := ne_of_beq_false c14; have fc18 : ix (ev.L.getD j []) 0 = 4 := eq_of_beq c18; have fc19 : ix (ev.L.getD j []) 0 = 5 := eq_of_beq c19; omega)) fun c19 =>
                    False.elim (by have fc1 : ix (ev.L.getD j []) 2 = k.I := eq_of_bneF c1; have fc2 : ¬ ix (ev.L.getD j []) 0 = 3 := ne_of_beq_false c2; have fc6 : ¬ ix (ev.L.getD j []) 0 = 4 := ne_of_beq_false c6; have fc10 : ¬ ix (ev.L.getD j []) 0 = 5 := ne_of_beq_false c10; have fc14 : ¬ ix (ev.L.getD j []) 0 = 8 := ne_of_beq_false c14; have fc18 : ix (ev.L.getD j []) 0 = 4 := eq_of_beq c18; have fc19 : ¬ ix (ev.L.getD j []) 0 = 5 := ne_of_beq_false c19; omega)) fun c18 =>
                  rd_ite (fun c20 => False.elim (by have fc1 : ix (ev.L.getD j []) 2 = k.I := eq_of_bneF c1; have fc2 : ¬ ix (ev.L.getD j []) 0 = 3 := ne_of_beq_false c2; have fc6 : ¬ ix (ev.L.getD j []) 0 = 4 := ne_of_beq_false c6; have fc10 : ¬ ix (ev.L.getD j []) 0 = 5 := ne_of_beq_false c10; have fc14 : ¬ ix (ev.L.getD j []) 0 = 8 := ne_of_beq_false c14; have fc18 : ¬ ix (ev.L.getD j []) 0 = 4 := ne_of_beq_false c18; have fc20 : ix (ev.L.getD j []) 0 = 5 := eq_of_beq c20; omega)) fun c20 =>
                    rd_again (done (.i _) (.i _) (.i _) (by have fc1 : ix (ev.L.getD j []) 2 = k.I := eq_of_bneF c1; have fc2 : ¬ ix (ev.L.getD j []) 0 = 3 := ne_of_beq_false c2; have fc6 : ¬ ix (ev.L.getD j []) 0 = 4 := ne_of_beq_false c6; have fc10 : ¬ ix (ev.L.getD j []) 0 = 5 := ne_of_beq_false c10; have fc14 : ¬ ix (ev.L.getD j []) 0 = 8 := ne_of_beq_false c14; have fc18 : ¬ ix (ev.L.getD j []) 0 = 4 := ne_of_beq_false c18; have fc20 : ¬ ix (ev.L.getD j []) 0 = 5 := ne_of_beq_false c20; exact if_neg (fun h => by have := h.1; have := h.2; omega)) (by have fc1 : ix (ev.L.getD j []) 2 = k.I := eq_of_bneF c1; have fc2 : ¬ ix (ev.L.getD j []) 0 = 3 := ne_of_beq_false c2; have fc6 : ¬ ix (ev.L.getD j []) 0 = 4 := ne_of_beq_false c6; have fc10 : ¬ ix (ev.L.getD j []) 0 = 5 := ne_of_beq_false c10; have fc14 : ¬ ix (ev.L.getD j []) 0 = 8 := ne_of_beq_false c14; have fc18 : ¬ ix (ev.L.getD j []) 0 = 4 := ne_of_beq_false c18; have fc20 : ¬ ix (ev.L.getD j []) 0 = 5 := ne_of_beq_false c20; exact if_neg (fun h => by have := h.1; have := h.2; omega)) (by have fc1 : ix (ev.L.getD j []) 2 = k.I := eq_of_bneF c1; have fc2 : ¬ ix (ev.L.getD j []) 0 = 3 := ne_of_beq_false c2; have fc6 : ¬ ix (ev.L.getD j []) 0 = 4 := ne_of_beq_false c6; have fc10 : ¬ ix (ev.L.getD j []) 0 = 5 := ne_of_beq_false c10; have fc14 : ¬ ix (ev.L.getD j []) 0 = 8 := ne_of_beq_false c14; have fc18 : ¬ ix (ev.L.getD j []) 0 = 4 := ne_of_beq_false c18; have fc20 : ¬ ix (ev.L.getD j []) 0 = 5 := ne_of_beq_false c20; exact if_neg (fun h => by have := h.1; have := h.2; omega))) hm)) fun hge => rd_out (by rw [← h, show ev.L.length - j = 0 by omega]; rfl)
  · cases h
theorem ok43_17 (n : Nat) : LoopSim C (n + 2) 43 (loopOf C.P 43 17) (mkL l43_17 G43_17) := by
  refine loop_ofK hC (sp := sp43) (lp := lp43) (sw := sw43) ⟨ok42 n, trivial⟩ trivial 0 [21] (by kernel_rfl) (by kernel_rfl) (fun k hk L hL => by simp at hk; subst hk; cases hL; exact ok43_21 n) (by kernel_rfl) (fun ds => ((ds.getD 18 default).I - (ds.getD 17 default).I).toNat) fun ds rr h => ?_
  unfold G43_17 at h
  split at h
  · rename_i p0 p1 p2 p3 p4 p5 ov os oh cv cs ch rd po ca ev t i w0 w1 w2 w3 w4 w5
    obtain ⟨hp, h⟩ := need_some h
    rw [yes_iff] at hp
    obtain ⟨hl, ⟨ht0, ht1⟩, hPl, hi0, hi1⟩ := hp
    have hb := big_eq
    have hPl' := hPl
    unfold okPl at hPl'
    refine ⟨by rw [fuelC]; simp only [List.getD_cons_succ, List.getD_cons_zero]; omega, ?_⟩
    rw [show (roundTK C (mkTab sp43 lp43 sw43) 43 (loopOf C.P 43 17) 0 l43_17 [p0, p1, p2, p3, p4, p5, ov, os, oh, cv, cs, ch, rd, po, ca, ev, t, i, w0, w1, w2, w3, w4, w5]).run = _ from t43_17 p0 p1 p2 p3 p4 p5 ov os oh cv cs ch rd po ca ev t i w0 w1 w2 w3 w4 w5]
    obtain ⟨k, hk⟩ : ∃ k : Nat, i.I = k := ⟨i.I.toNat, by omega⟩
    have z0 : (0 : Int).toNat = 0 := rfl
    simp only [hk, Int.toNat_natCast, z0, Nat.sub_zero] at h hi0 hi1 ⊢
    refine rd_if (fun hlt => ?_) fun hge => rd_out (all_end h (by omega))
    have hk2 : k < w0.I.toNat := by omega
    rw [wrap_succ (by omega), wrap_id (x := t.I - w1.I) (by omega) (by omega)]
    have hm : (w0.I - ((k + 1 : Nat) : Int)).toNat < (w0.I - i.I).toNat := by omega
    obtain ⟨hf, ht⟩ := all_step h hk2
    have done : okP w1.I t.I ev.L k = true → (G43_17 [.i p0.I, .i p1.I, .i p2.I, .i p3.I, .i p4.I, .i p5.I, .b ov.B, .i os.I, .b oh.B, .b cv.B, .i cs.I, .b ch.B, .l rd.L, .l po.L, .l ca.L, .l ev.L, .i t.I, .i ((k + 1 : Nat) : Int), .i w0.I, .i w1.I, .i w2.I, .i w3.I, .i w4.I, .i w5.I]).run = some rr := fun e => (need_yes ⟨hl, ⟨ht0, ht1⟩, hPl, by simp only [I_i]; omega, by simp only [I_i]; omega⟩).trans (ht e)
    have ee : okP w1.I t.I ev.L k = postB w1.I t.I (lstF k ev.L 0 ev.L.length (-1)) (pstF 4 k ev.L 0 ev.L.length (-1)) (pstF 5 k ev.L 0 ev.L.length (-1)) := rfl
    rw [ee] at hf done
    generalize lstF k ev.L 0 ev.L.length (-1) = A at *
    generalize pstF 4 k ev.L 0 ev.L.length (-1) = B at *
    generalize pstF 5 k ev.L 0 ev.L.length (-1) = D5 at *
    unfold postB at hf done
    refine rd_yes ⟨hl, by omega, by omega⟩ (rd_if (fun c1 => rd_out (hf ?_)) fun c1 => rd_if (fun c2 => rd_out (hf ?_)) fun c2 => rd_if (fun c3 => rd_if (fun c4 => rd_out (hf ?_)) fun c4 => rd_again (done ?_) hm) fun c3 => rd_again (done ?_) hm)
    · rw [decide_eq_true c1]; rfl
    · rw [decide_eq_true c2, Bool.or_true]; rfl
    · rw [decide_eq_true c3, decide_eq_true c4, Bool.and_true, Bool.or_true]; rfl
    · rw [decide_eq_false c1, decide_eq_false c2, decide_eq_false c4, Bool.and_false]; rfl
    · rw [decide_eq_false c1, decide_eq_false c2, decide_eq_false c3]; rfl
  · cases h
theorem ok43_34 (n : Nat) : LoopSim C (n + 2) 43 (loopOf C.P 43 34) (mkL l43_34 G43_34) := by
  refine loop_ofK hC (sp := sp43) (lp := lp43) (sw := sw43) ⟨ok42 n, trivial⟩ trivial 0 [] (by kernel_rfl) rfl (fun k hk => by cases hk) (by kernel_rfl) (fun ds => ((ds.getD 21 default).I - (ds.getD 15 default).I).toNat) fun ds rr h => ?_
  unfold G43_34 at h
  split at h
  · rename_i p0 p1 p2 p3 p4 p5 ov os oh cv cs ch rd po ca i w0 w1 w2 w3 w4 w5
    obtain ⟨hp, h⟩ := need_some h
    rw [yes_iff] at hp
    obtain ⟨⟨h5, hca⟩, hPl, hi0, hi1⟩ := hp
    have hb := big_eq
    have hPl' := hPl
    unfold okPl at hPl'
    refine ⟨by rw [fuelC]; simp only [List.getD_cons_succ, List.getD_cons_zero]; omega, ?_⟩
    rw [show (roundTK C (mkTab sp43 lp43 sw43) 43 (loopOf C.P 43 34) 0 l43_34 [p0, p1, p2, p3, p4, p5, ov, os, oh, cv, cs, ch, rd, po, ca, i, w0, w1, w2, w3, w4, w5]).run = _ from t43_34 p0 p1 p2 p3 p4 p5 ov os oh cv cs ch rd po ca i w0 w1 w2 w3 w4 w5]
    obtain ⟨k, hk⟩ : ∃ k : Nat, i.I = k := ⟨i.I.toNat, by omega⟩
    simp only [hk, Int.toNat_natCast] at h hi0 hi1 ⊢
    refine rd_if (fun hlt => ?_) fun hge => rd_out (all_end h (by omega))
    have hk2 : k < w5.I.toNat := by omega
    rw [wrap_succ (by omega), wrap_id (x := w2.I - 1) (by omega) (by omega)]
    have hm : (w5.I - ((k + 1 : Nat) : Int)).toNat < (w5.I - i.I).toNat := by omega
    obtain ⟨hf, ht⟩ := all_step h hk2
    have done : okR w2.I ca.L k = true → (G43_34 [.i p0.I, .i p1.I, .i p2.I, .i p3.I, .i p4.I, .i p5.I, .b ov.B, .i os.I, .b oh.B, .b cv.B, .i cs.I, .b ch.B, .l rd.L, .l po.L, .l ca.L, .i ((k + 1 : Nat) : Int), .i w0.I, .i w1.I, .i w2.I, .i w3.I, .i w4.I, .i w5.I]).run = some rr := fun e => (need_yes ⟨⟨h5, hca⟩, hPl, by simp only [I_i]; omega, by simp only [I_i]; omega⟩).trans (ht e)
    unfold okR at hf done
    refine rd_yes ⟨by omega, by omega, hca⟩ (rd_pos (by omega) (rd_ite (fun c1 => rd_not (fun c2 => rd_if (fun c3 => rd_out (hf ?_)) fun c3 => rd_again (done ?_) hm) fun c2 => rd_again (done ?_) hm) fun c1 => rd_again (done ?_) hm))
    · rw [c1, c2, decide_eq_true c3]; rfl
    · rw [c1, c2, decide_eq_false c3]; rfl
    · rw [c1, c2]; rfl
    · rw [c1]; rfl
  · cases h
theorem ok43 (n : Nat) : FnOK C (n + 3) 43 (mkF s43 G43) := by
  refine fn_ofS hC (sp := sp43) (lp := lp43) (sw := sw43) ⟨ok42 n, trivial⟩ trivial (by kernel_rfl) [3, 12, 17, 34] (by kernel_rfl) (by kernel_rfl) (fun k hk L hL => by
      simp at hk
      rcases hk with rfl | rfl | rfl | rfl
      · cases hL; exact ok43_3 n
      · cases hL; exact ok43_12 n
      · cases hL; exact ok43_17 n
      · cases hL; exact ok43_34 n) fun ds r hh => ?_
  unfold G43 at hh
  split at hh
  · rename_i p0 p1 p2 p3 p4 p5 ov os oh cv cs ch rd po ca w0 w1 w2 w3 w4 w5 ev t
    obtain ⟨hp, hh⟩ := need_some hh
    rw [yes_iff] at hp
    obtain ⟨hl, ⟨ht, hPl⟩, h5, hca⟩ := hp
    have hPl' := hPl
    unfold okPl at hPl'
    refine (t43 p0 p1 p2 p3 p4 p5 ov os oh cv cs ch rd po ca w0 w1 w2 w3 w4 w5 ev t).trans ?_
    rw [← hh]
    have z0 : (0 : Int).toNat = 0 := rfl
    simp only [z0, Nat.sub_zero]
    unfold readyB
    refine go_yes ⟨hl, by omega, by omega⟩ (go_if (fun c1 => ?_) fun c1 => go_if (fun c2 => ?_) fun c2 => go_yes ⟨hl, by omega, by omega⟩ (go_ite (fun c3 => go_yes ⟨hl, ht, hPl, by omega, by omega⟩ (go_ite (fun c4 => go_yes ⟨⟨h5, hca⟩, hPl, by omega, by omega⟩ (go_ite (fun c5 => ?_) fun c5 => ?_)) fun c4 => ?_)) fun c3 => ?_))
    · rw [decide_eq_false (p := 0 ≤ kndF 1 ev.L 0 ev.L.length (-1)) (by omega)]; rfl
    · rw [decide_eq_false (p := 0 ≤ kndF 6 ev.L 0 ev.L.length (-1)) (by omega), Bool.and_false]; rfl
    · rw [decide_eq_true (p := 0 ≤ kndF 1 ev.L 0 ev.L.length (-1)) (by omega), decide_eq_true (p := 0 ≤ kndF 6 ev.L 0 ev.L.length (-1)) (by omega), c3, c4, c5]; rfl
    · rw [decide_eq_true (p := 0 ≤ kndF 1 ev.L 0 ev.L.length (-1)) (by omega), decide_eq_true (p := 0 ≤ kndF 6 ev.L 0 ev.L.length (-1)) (by omega), c3, c4, c5]; rfl
    · rw [decide_eq_true (p := 0 ≤ kndF 1 ev.L 0 ev.L.length (-1)) (by omega), decide_eq_true (p := 0 ≤ kndF 6 ev.L 0 ev.L.length (-1)) (by omega), c3, c4]; rfl
    · rw [decide_eq_true (p := 0 ≤ kndF 1 ev.L 0 ev.L.length (-1)) (by omega), decide_eq_true (p := 0 ≤ kndF 6 ev.L 0 ev.L.length (-1)) (by omega), c3]; rfl
  · cases hh
end Go.Proofs.Ytgmefblkmidglaa
namespace Go.Proofs.Ytgmefblkmidglaa
open Go.Lite
def s13 : Sig := ⟨[.agg [.k (.int .i64), .k (.int .i64), .k (.int .i64), .k (.int .i64), .k (.int .i64), .k (.int .i64)], .k (.ro [.int .i64, .int .i64, .int .i64, .int .i64, .int .i64, .int .i64, .int .i64]), .k (.int .i64), .k (.int .i64)], [(.k .bool, [])]⟩
def l13_8 : LSig := mkLS [1, 2, 3, 4, 9, 11, 12] [(166, [(1, .k (.ro [.int .i64, .int .i64, .int .i64, .int .i64, .int .i64, .int .i64, .int .i64])), (2, .k (.int .i64)), (3, .k (.int .i64)), (4, .ptr 0 6 0 0), (9, .ptr 1 15 0 0), (11, .nils), (12, .k (.int .i64))], [.box [.k (.int .i64), .k (.int .i64), .k (.int .i64), .k (.int .i64), .k (.int .i64), .k (.int .i64)], .box [.k (.int .i64), .k (.int .i64), .k (.int .i64), .k (.int .i64), .k (.int .i64), .k (.int .i64), .k .bool, .k (.int .i64), .k .bool, .k .bool, .k (.int .i64), .k .bool, .sl 2 3, .sl 3 3, .sl 4 5], .row [.bool, .int .i64, .bool], .row [.bool, .int .i64, .bool], .row [.bool, .int .i64, .int .i64, .bool, .bool]]), (166, [(1, .k (.ro [.int .i64, .int .i64, .int .i64, .int .i64, .int .i64, .int .i64, .int .i64])), (2, .k (.int .i64)), (3, .k (.int .i64)), (4, .ptr 0 6 0 0), (9, .ptr 1 15 0 0), (11, .sl 2 4), (12, .k (.int .i64))], [.box [.k (.int .i64), .k (.int .i64), .k (.int .i64), .k (.int .i64), .k (.int .i64), .k (.int .i64)], .box [.k (.int .i64), .k (.int .i64), .k (.int .i64), .k (.int .i64), .k (.int .i64), .k (.int .i64), .k .bool, .k (.int .i64), .k .bool, .k .bool, .k (.int .i64), .k .bool, .sl 3 3, .sl 4 3, .sl 5 5], .row [.int .i64, .int .i64, .int .i64, .int .i64], .row [.bool, .int .i64, .bool], .row [.bool, .int .i64, .bool], .row [.bool, .int .i64, .int .i64, .bool, .bool]])] [(.ret, [8], [(166, [(8, .k .bool)], [])]), (.exit 0, [], [(166, [], [])])]
end Go.Proofs.Ytgmefblkmidglaa
namespace Go.Proofs.Ytgmefblkmidglaa
open Go.Lite
set_option linter.unusedVariables false
theorem kndF_app {q : Int} {ev : List (List D)} {e : List D} : ∀ (k i : Nat) (t : Int), i + k = ev.length → kndF q (ev ++ [e]) i (k + 1) t = if ix e 0 = q then mxI (kndF q ev i k t) (ix e 1) else kndF q ev i k t
  | 0, i, t, h => by
    show (if ix ((ev ++ [e]).getD i []) 0 = q then mxI t (ix ((ev ++ [e]).getD i []) 1) else t) = _
    rw [List.getD_eq_getElem?_getD, List.getElem?_append_right (by omega), show i - ev.length = 0 by omega]
    rfl
  | k + 1, i, t, h => by
    show kndF q (ev ++ [e]) (i + 1) (k + 1) (if ix ((ev ++ [e]).getD i []) 0 = q then mxI t (ix ((ev ++ [e]).getD i []) 1) else t) = _
    rw [kndF_app k (i + 1) _ (by omega), List.getD_eq_getElem?_getD, List.getElem?_append_left (by omega), ← List.getD_eq_getElem?_getD]
    rfl
theorem pstF_app {q p : Int} {ev : List (List D)} {e : List D} : ∀ (k i : Nat) (t : Int), i + k = ev.length → pstF q p (ev ++ [e]) i (k + 1) t = if ix e 2 = p ∧ ix e 0 = q then mxI (pstF q p ev i k t) (ix e 1) else pstF q p ev i k t
  | 0, i, t, h => by
    show (if ix ((ev ++ [e]).getD i []) 2 = p ∧ ix ((ev ++ [e]).getD i []) 0 = q then mxI t (ix ((ev ++ [e]).getD i []) 1) else t) = _
    rw [List.getD_eq_getElem?_getD, List.getElem?_append_right (by omega), show i - ev.length = 0 by omega]
    rfl
  | k + 1, i, t, h => by
    show pstF q p (ev ++ [e]) (i + 1) (k + 1) (if ix ((ev ++ [e]).getD i []) 2 = p ∧ ix ((ev ++ [e]).getD i []) 0 = q then mxI t (ix ((ev ++ [e]).getD i []) 1) else t) = _
    rw [pstF_app k (i + 1) _ (by omega), List.getD_eq_getElem?_getD, List.getElem?_append_left (by omega), ← List.getD_eq_getElem?_getD]
    rfl
noncomputable section
def kndA (q : Int) (ev : List (List D)) : Int := kndF q ev 0 ev.length (-1)
def pstA (q p : Int) (ev : List (List D)) : Int := pstF q p ev 0 ev.length (-1)
def valE (p0 p5 : Int) (ev : List (List D)) : Prop := ∀ j, j < ev.length → evB p0 p5 (ix (ev.getD j []) 0) (ix (ev.getD j []) 1) (ix (ev.getD j []) 2) (ix (ev.getD j []) 3) = true
end
theorem kndA_app {q : Int} {ev : List (List D)} {e : List D} : kndA q (ev ++ [e]) = if ix e 0 = q then mxI (kndA q ev) (ix e 1) else kndA q ev := by
  unfold kndA
  rw [List.length_append]
  exact kndF_app ev.length 0 _ (by omega)
theorem pstA_app {q p : Int} {ev : List (List D)} {e : List D} : pstA q p (ev ++ [e]) = if ix e 2 = p ∧ ix e 0 = q then mxI (pstA q p ev) (ix e 1) else pstA q p ev := by
  unfold pstA
  rw [List.length_append]
  exact pstF_app ev.length 0 _ (by omega)
theorem rev_rec {α : Type} {P : List α → Prop} (h0 : P []) (h1 : ∀ l x, P l → P (l ++ [x])) : ∀ l, P l := fun l => by
  have : ∀ (l m : List α), P m → P (m ++ l) := fun l => by
    induction l with
    | nil => intro m h; rw [List.append_nil]; exact h
    | cons x l ih =>
      intro m h
      have := ih (m ++ [x]) (h1 m x h)
      rwa [List.append_assoc] at this
  have := this l [] h0
  rwa [List.nil_append] at this
theorem val_app {p0 p5 : Int} {ev : List (List D)} {e : List D} (h : valE p0 p5 (ev ++ [e])) : valE p0 p5 ev ∧ evB p0 p5 (ix e 0) (ix e 1) (ix e 2) (ix e 3) = true := by
  refine ⟨fun j hj => ?_, ?_⟩
  · have := h j (by rw [List.length_append]; omega)
    rwa [List.getD_eq_getElem?_getD, List.getElem?_append_left hj, ← List.getD_eq_getElem?_getD] at this
  · have := h ev.length (by rw [List.length_append]; simp)
    rwa [List.getD_eq_getElem?_getD, List.getElem?_append_right (Nat.le_refl _), Nat.sub_self] at this
theorem val_put {p0 p5 : Int} {ev : List (List D)} {e : List D} (h : valE p0 p5 ev) (he : evB p0 p5 (ix e 0) (ix e 1) (ix e 2) (ix e 3) = true) : valE p0 p5 (ev ++ [e]) := fun j hj => by
  rw [List.length_append, List.length_singleton] at hj
  by_cases hl : j < ev.length
  · rw [List.getD_eq_getElem?_getD, List.getElem?_append_left hl, ← List.getD_eq_getElem?_getD]
    exact h j hl
  · rw [List.getD_eq_getElem?_getD, List.getElem?_append_right (by omega), show j - ev.length = 0 by omega]
    exact he
theorem say_pst {p0 p5 al fo p : Int} {fi : Bool} (hne : al ≠ fo) : ∀ ev : List (List D), valE p0 p5 ev →
    ((sayS al fo p fi ev).1 = max (pstA al p ev) (pstA fo p ev) ∧ -1 ≤ pstA al p ev ∧ -1 ≤ pstA fo p ev) ∧ ((pstA al p ev = -1 ∧ pstA fo p ev = -1 ∧ (sayS al fo p fi ev).2 = fi) ∨ (0 ≤ max (pstA al p ev) (pstA fo p ev) ∧ ((sayS al fo p fi ev).2 = false → pstA fo p ev < pstA al p ev))) := by
  refine rev_rec (fun _ => ⟨⟨rfl, Int.le_refl _, Int.le_refl _⟩, .inl ⟨rfl, rfl, rfl⟩⟩) fun ev e ih h => ?_
  obtain ⟨hv, he⟩ := val_app h
  have ih := ih hv
  have he := of_decide_eq_true he
  obtain ⟨-, ⟨hs, -⟩, -, -, -, -⟩ := he
  rw [sayS_app, pstA_app, pstA_app]
  generalize sayS al fo p fi ev = q at ih ⊢
  generalize pstA al p ev = A at ih ⊢
  generalize pstA fo p ev = F at ih ⊢
  obtain ⟨t, b⟩ := q
  simp only at ih
  obtain ⟨⟨i1, i2, i3⟩, i4⟩ := ih
  unfold say1
  have ma := mx_spec A (ix e 1)
  have mf := mx_spec F (ix e 1)
  generalize mxI A (ix e 1) = A' at ma ⊢
  generalize mxI F (ix e 1) = F' at mf ⊢
  by_cases hp : ix e 2 = p
  · by_cases ka : ix e 0 = al
    · have kf : ¬ ix e 0 = fo := fun h' => hne (ka.symm.trans h')
      have kb : (ix e 0 == fo) = false := by simpa using kf
      rw [if_pos (c := ix e 2 = p ∧ ix e 0 = al) ⟨hp, ka⟩, if_neg (c := ix e 2 = p ∧ ix e 0 = fo) (fun h' => kf h'.2), kb]
      by_cases h1 : ix e 1 < t
      · rw [if_pos (.inr (.inr h1))]
        refine ⟨⟨by simp only; omega, by omega, by omega⟩, ?_⟩
        rcases i4 with ⟨j1, j2, -⟩ | ⟨j1, j2⟩
        · omega
        · exact .inr ⟨by omega, fun hb => by have := j2 hb; omega⟩
      · rw [if_neg (by simp only; omega)]
        by_cases h2 : ix e 1 > t
        · rw [if_pos h2]
          exact ⟨⟨by simp only; omega, by omega, by omega⟩, .inr ⟨by omega, fun _ => by omega⟩⟩
        · rw [if_neg h2, Bool.or_false]
          refine ⟨⟨by simp only; omega, by omega, by omega⟩, ?_⟩
          rcases i4 with ⟨j1, j2, -⟩ | ⟨j1, j2⟩
          · omega
          · exact .inr ⟨by omega, fun hb => by have := j2 hb; omega⟩
    · by_cases kf : ix e 0 = fo
      · have kb : (ix e 0 == fo) = true := by simpa using kf
        rw [if_neg (c := ix e 2 = p ∧ ix e 0 = al) (fun h' => ka h'.2), if_pos (c := ix e 2 = p ∧ ix e 0 = fo) ⟨hp, kf⟩, kb]
        by_cases h1 : ix e 1 < t
        · rw [if_pos (.inr (.inr h1))]
          refine ⟨⟨by simp only; omega, by omega, by omega⟩, ?_⟩
          rcases i4 with ⟨j1, j2, -⟩ | ⟨j1, j2⟩
          · omega
          · exact .inr ⟨by omega, fun hb => by have := j2 hb; omega⟩
        · rw [if_neg (by simp only; omega)]
          by_cases h2 : ix e 1 > t
          · rw [if_pos h2]
            exact ⟨⟨by simp only; omega, by omega, by omega⟩, .inr ⟨by omega, fun hb => by cases hb⟩⟩
          · rw [if_neg h2, Bool.or_true]
            exact ⟨⟨by simp only; omega, by omega, by omega⟩, .inr ⟨by omega, fun hb => by cases hb⟩⟩
      · rw [if_neg (c := ix e 2 = p ∧ ix e 0 = al) (fun h' => ka h'.2), if_neg (c := ix e 2 = p ∧ ix e 0 = fo) (fun h' => kf h'.2), if_pos (.inl ⟨ka, kf⟩)]
        exact ⟨⟨i1, i2, i3⟩, i4⟩
  · rw [if_neg (c := ix e 2 = p ∧ ix e 0 = al) (fun h' => hp h'.1), if_neg (c := ix e 2 = p ∧ ix e 0 = fo) (fun h' => hp h'.1), if_pos (.inr (.inl hp))]
    exact ⟨⟨i1, i2, i3⟩, i4⟩
theorem knd_pst {p0 p5 q : Int} (hq : ¬ (q = 3 ∨ q = 4 ∨ q = 5 ∨ q = 8)) : ∀ ev : List (List D), valE p0 p5 ev → kndA q ev = pstA q 0 ev :=
  rev_rec (fun _ => rfl) fun ev e ih h => by
    obtain ⟨hv, he⟩ := val_app h
    have he := of_decide_eq_true he
    obtain ⟨-, -, -, -, hz, -⟩ := he
    rw [kndA_app, pstA_app, ih hv]
    by_cases k : ix e 0 = q
    · rw [if_pos k, if_pos ⟨by omega, k⟩]
    · rw [if_neg k, if_neg (fun h' => k h'.2)]
theorem knd_ge {q : Int} : ∀ (ev : List (List D)) (j : Nat), j < ev.length → ix (ev.getD j []) 0 = q → ix (ev.getD j []) 1 ≤ kndA q ev :=
  rev_rec (fun j hj => absurd hj (Nat.not_lt_zero _)) fun ev e ih j hj hk => by
    rw [List.length_append, List.length_singleton] at hj
    rw [kndA_app]
    have m := mx_spec (kndA q ev) (ix e 1)
    by_cases hl : j < ev.length
    · rw [List.getD_eq_getElem?_getD, List.getElem?_append_left hl, ← List.getD_eq_getElem?_getD] at hk ⊢
      have := ih j hl hk
      split
      · omega
      · exact this
    · have e0 : (ev ++ [e]).getD j [] = e := by
        rw [List.getD_eq_getElem?_getD, List.getElem?_append_right (by omega), show j - ev.length = 0 by omega]
        rfl
      rw [e0] at hk ⊢
      rw [if_pos hk]
      omega
theorem any_no {R : List D → Bool} {l : List (List D)} (h : anyL R l = false) (j : Nat) (hj : j < l.length) : R (l.getD j []) = false := by
  unfold anyL at h
  rw [Bool.not_eq_false', allFrom_iff] at h
  have := h j (Nat.zero_le _) (by omega)
  simpa using this
theorem no_any {R : List D → Bool} {l : List (List D)} (h : ∀ j, j < l.length → R (l.getD j []) = false) : anyL R l = false := by
  unfold anyL
  rw [Bool.not_eq_false', allFrom_iff]
  intro j _ hj
  rw [h j (by omega)]
  rfl
structure SafeW (p0 p1 p2 p3 p4 p5 nr np nc : Int) (g : GS) (ev : List (List D)) : Prop where
  ok : OkS p0 p1 p2 p3 p4 p5 nr np nc g
  same : Same p0 g ev
  val : valE p0 p5 ev
section
variable {p0 p1 p2 p3 p4 p5 nr np nc car t : Int} {g : GS} {ev : List (List D)}
theorem stage_ok {al fo : Int} (hne : al ≠ fo) (ha : ¬ (al = 3 ∨ al = 4 ∨ al = 5 ∨ al = 8)) (hf : ¬ (fo = 3 ∨ fo = 4 ∨ fo = 5 ∨ fo = 8)) (hv : valE p0 p5 ev) (h : (sayS al fo 0 true ev).2 = false) : 0 ≤ kndA al ev ∧ kndA fo ev < kndA al ev := by
  rw [knd_pst ha ev hv, knd_pst hf ev hv]
  obtain ⟨⟨-, h2, h3⟩, h4⟩ := say_pst (fi := true) (p := 0) hne ev hv
  rcases h4 with ⟨-, -, h5⟩ | ⟨-, h5⟩
  · rw [h] at h5; cases h5
  · have := h5 h
    omega
theorem rules_ready (H : SafeW p0 p1 p2 p3 p4 p5 nr np nc g ev) (hr : ∀ j, j < 8 → ruleB p0 p1 p2 p3 p4 g.ov g.cv g.rd g.po g.ca car t j = false) : readyB p0 p1 p2 p5 t ev g.ca = true := by
  obtain ⟨⟨⟨hPl, -, ⟨l1, l2, l3⟩, -, -, -⟩, -, -, -⟩, hS, hv⟩ := H
  have r0 : (!g.ov) = false := hr 0 (by decide)
  have r1 : anyL redR g.rd = false := hr 1 (by decide)
  have r2 : anyL (silR t p1) g.po = false := hr 2 (by decide)
  have r3 : (!g.cv) = false := hr 3 (by decide)
  have r4 : anyL (both (befR p2)) g.ca = false := hr 4 (by decide)
  obtain ⟨o1, o2⟩ := stage_ok (by decide) (by decide) (by decide) hv (hS.o.v.symm.trans r0)
  obtain ⟨c1, c2⟩ := stage_ok (by decide) (by decide) (by decide) hv (hS.c.v.symm.trans r3)
  unfold readyB
  rw [decide_eq_true (show 0 ≤ kndF 1 ev 0 ev.length (-1) from o1), decide_eq_true (show 0 ≤ kndF 6 ev 0 ev.length (-1) from c1), Bool.and_self, Bool.true_and, Bool.and_eq_true, Bool.and_eq_true]
  refine ⟨allFrom_iff.2 fun j _ hj => ?_, allFrom_iff.2 fun j _ hj => ?_, allFrom_iff.2 fun j _ hj => ?_⟩
  · have b1 : (ix (ev.getD j []) 0 == 2 && decide (ix (ev.getD j []) 1 ≥ kndA 1 ev)) = false := by
      by_cases k : ix (ev.getD j []) 0 = 2
      · have := knd_ge ev j (by omega) k
        rw [decide_eq_false (by omega), Bool.and_false]
      · rw [beq_eq_false_iff_ne.2 k, Bool.false_and]
    have b2 : (ix (ev.getD j []) 0 == 7 && decide (ix (ev.getD j []) 1 ≥ kndA 6 ev)) = false := by
      by_cases k : ix (ev.getD j []) 0 = 7
      · have := knd_ge ev j (by omega) k
        rw [decide_eq_false (by omega), Bool.and_false]
      · rw [beq_eq_false_iff_ne.2 k, Bool.false_and]
    show (!((ix (ev.getD j []) 0 == 2 && decide (ix (ev.getD j []) 1 ≥ kndA 1 ev)) || (ix (ev.getD j []) 0 == 7 && decide (ix (ev.getD j []) 1 ≥ kndA 6 ev)))) = true
    rw [b1, b2]
    rfl
  · have hj0 : (j : Int) < p0 := by omega
    have s1 := any_no r2 j (by omega)
    unfold silR at s1
    rw [Bool.or_eq_false_iff, Bool.not_eq_false'] at s1
    obtain ⟨s1, s2⟩ := s1
    have s2 := of_decide_eq_false s2
    obtain ⟨e1, e2⟩ := (hS.p j hj0).2 s1
    have s3 : bx (g.rd.getD j []) 0 = false := any_no r1 j (by omega)
    have s4 : (sayS 5 4 j false ev).2 = false := (hS.r j hj0).v.symm.trans s3
    obtain ⟨⟨-, h2, h3⟩, h4⟩ := say_pst (fi := false) (al := 5) (fo := 4) (p := j) (by decide) ev hv
    have hg : ¬ (pstA 4 j ev ≥ 0 ∧ pstA 4 j ev ≥ pstA 5 j ev) := fun h => by
      rcases h4 with ⟨a1, a2, -⟩ | ⟨-, h5⟩
      · omega
      · have := h5 s4
        omega
    show postB p1 t (lastB j ev) (pstA 4 j ev) (pstA 5 j ev) = true
    unfold postB
    rw [e1, decide_eq_false (p := ix (g.po.getD j []) 1 < 0) (by omega), decide_eq_false (p := ix (g.po.getD j []) 1 < t - p1) (by omega)]
    by_cases a : pstA 4 j ev ≥ 0
    · rw [decide_eq_false (p := pstA 4 j ev ≥ pstA 5 j ev) (fun h => hg ⟨a, h⟩), Bool.and_false]
      rfl
    · rw [decide_eq_false a]
      rfl
  · have := any_no r4 j (by omega)
    show (!(bx (g.ca.getD j []) 0 && (!bx (g.ca.getD j []) 3 && decide (ix (g.ca.getD j []) 2 < p2 - 1)))) = true
    exact congrArg (!·) this
theorem report_ok {s p : Int} (hr : ∀ j, j < 8 → ruleB p0 p1 p2 p3 p4 g.ov g.cv g.rd g.po g.ca car t j = false) : ∀ j, j < 8 → ruleB p0 p1 p2 p3 p4 (hearE p0 p5 3 s p 0 g).ov (hearE p0 p5 3 s p 0 g).cv (hearE p0 p5 3 s p 0 g).rd (hearE p0 p5 3 s p 0 g).po (hearE p0 p5 3 s p 0 g).ca car t j = false := by
  intro j hj
  unfold hearE
  split
  · have hr := hr j hj
    have hjs : j = 0 ∨ j = 1 ∨ j = 2 ∨ j = 3 ∨ j = 4 ∨ j = 5 ∨ j = 6 ∨ j = 7 := by omega
    rcases hjs with rfl | rfl | rfl | rfl | rfl | rfl | rfl | rfl
    · exact hr
    · exact hr
    · have r2 : anyL (silR t p1) g.po = false := hr
      show anyL (silR t p1) (evPo 3 s p g.po) = false
      refine no_any fun j hj => ?_
      rw [po_mod, len_mod] at hj
      rw [po_mod, mod_get]
      split
      · rename_i hp
        have s1 := any_no r2 p.toNat hp.2
        unfold silR at s1
        rw [Bool.or_eq_false_iff, Bool.not_eq_false'] at s1
        have s2 := of_decide_eq_false s1.2
        have m := mx_spec (ix (g.po.getD p.toNat []) 1) s
        show (!true || decide (t - mxI (ix (g.po.getD p.toNat []) 1) s > p1)) = false
        rw [decide_eq_false (by omega)]
        rfl
      · exact any_no r2 j hj
    · exact hr
    · exact hr
    · exact hr
    · exact hr
    · exact hr
  · exact hr j hj
theorem rules_of {R : Nat → Bool} : ∀ (k i : Nat) (o : List (List D)), (∀ j, i ≤ j → j < i + k → R j = false) → rulesF R i k o = o
  | 0, _, _, _ => rfl
  | k + 1, i, o, h => by
    show rulesF R (i + 1) k (if R i then o ++ [[.i (1 + i)]] else o) = o
    rw [h i (Nat.le_refl _) (by omega), if_neg Bool.false_ne_true]
    exact rules_of k (i + 1) o fun j h1 h2 => h j (by omega) (by omega)
theorem safe_hear {k s p c : Int} (H : SafeW p0 p1 p2 p3 p4 p5 nr np nc g ev) (he : evB p0 p5 k s p c = true) : SafeW p0 p1 p2 p3 p4 p5 nr np nc (hearE p0 p5 k s p c g) (ev ++ [[.i k, .i s, .i p, .i c]]) :=
  ⟨ok_hear H.ok .., same_hear H.same H.ok.okg.2.2.1.1 H.ok.okg.2.2.1.2.1 he, val_put H.val he⟩
theorem safe_start (H : SafeW p0 p1 p2 p3 p4 p5 nr np nc g ev) (car t : Int) : SafeW p0 p1 p2 p3 p4 p5 nr np nc (startE p0 p1 p2 p3 p4 p5 car t g) ev := by
  refine ⟨ok_start H.ok .., ?_, H.val⟩
  unfold startE
  split
  · exact ⟨H.same.o, H.same.c, H.same.r, H.same.p⟩
  · exact H.same
theorem safe_new (h : planG p0 p1 p2 p3 p4 p5 = true) : SafeW p0 p1 p2 p3 p4 p5 p0 p0 p5 ⟨false, 0, false, false, 0, false, List.replicate p0.toNat lo0, List.replicate p0.toNat lo0, List.replicate p5.toNat ca1⟩ [] :=
  ⟨ok_new h, (inv_new h).same, fun j hj => absurd hj (Nat.not_lt_zero _)⟩
end
end Go.Proofs.Ytgmefblkmidglaa
set_option linter.unusedVariables false
namespace Go.Proofs.Ytgmefblkmidglaa
open Go.Lite
noncomputable section
def G13_8 (ds : List D) : T (Ex × List D) := match ds with
  | [j, l, post, early, i, w0, w1, w2, w3, w4, w5, p0, p1, p2, p3, p4, p5, ov, os, oh, cv, cs, ch, nr, np, nc, rd, po, ca] => .need (yes (j.I = 0 ∧ l.L.length ≤ 60 ∧ (0 ≤ i.I ∧ i.I ≤ l.L.length) ∧ (w0.I = p0.I ∧ w1.I = p1.I ∧ w2.I = p2.I ∧ w3.I = p3.I ∧ w4.I = p4.I ∧ w5.I = p5.I) ∧ SafeW p0.I p1.I p2.I p3.I p4.I p5.I nr.I np.I nc.I (gsOf ov os oh cv cs ch rd po ca) [])) (.leaf (.exit 0, []))
  | j :: l :: post :: early :: n :: [i, w0, w1, w2, w3, w4, w5, p0, p1, p2, p3, p4, p5, ov, os, oh, cv, cs, ch, nr, np, nc, ev, rd, po, ca] => .need (yes (j.I = 1 ∧ l.L.length ≤ 60 ∧ (0 ≤ i.I ∧ i.I ≤ l.L.length) ∧ n.I = ev.L.length ∧ (ev.L.length : Int) ≤ 2 * i.I ∧ (w0.I = p0.I ∧ w1.I = p1.I ∧ w2.I = p2.I ∧ w3.I = p3.I ∧ w4.I = p4.I ∧ w5.I = p5.I) ∧ SafeW p0.I p1.I p2.I p3.I p4.I p5.I nr.I np.I nc.I (gsOf ov os oh cv cs ch rd po ca) ev.L)) (.leaf (.exit 0, []))
  | _ => .fail
end
end Go.Proofs.Ytgmefblkmidglaa
namespace Go.Lite
def T.thenT {α : Type} : T α → T α
  | .ite _ t _ => t
  | t => t
def T.elseT {α : Type} : T α → T α
  | .ite _ _ e => e
  | t => t
def T.needT {α : Type} : T α → T α
  | .need _ t => t
  | t => t
end Go.Lite
namespace Go.Proofs.Ytgmefblkmidglaa
open Go.Lite
noncomputable def sp13 : SpL := [(34, mkF s34 G34), (35, mkF s35 G35), (43, mkF s43 G43)]
noncomputable def lp13 : LpL := [(8, mkL l13_8 G13_8)]
noncomputable def sw13 : SwL := [(38, mkFW s38 G38x), (40, mkFW s40 G40x), (39, mkFW s39 G39x)]
noncomputable def tab13 : Tab := mkTab sp13 lp13 sw13
end Go.Proofs.Ytgmefblkmidglaa
namespace Go.Proofs.Ytgmefblkmidglaa
open Go.Lite
set_option linter.unusedVariables false
set_option maxRecDepth 100000
theorem t13_8_0 (a b c d e f g h i j k l m n o p q r s t u v w x y z z26 z27 : D) : (roundT C tab13 13 (loopOf C.P 13 8) l13_8 [.i 0, a, b, c, d, e, f, g, h, i, j, k, l, m, n, o, p, q, r, s, t, u, v, w, x, y, z, z26, z27]).run =
  T.run (T.ite (decide (d.I < (a.L.length : Int))) (T.need (decide ((0 : Int) ≤ d.I ∧ d.I < (a.L.length : Int))) (T.ite (D.I (List.getD (List.getD a.L d.I.toNat []) 0 default) == (1 : Int)) (T.need (yes (OkS k.I l.I m.I n.I o.I p.I (w.I.toNat : Int) (x.I.toNat : Int) (y.I.toNat : Int) (gsOf (D.b q.B) (D.i r.I) (D.b s.B) (D.b t.B) (D.i u.I) (D.b v.B) (D.l z.L) (D.l z26.L) (D.l z27.L)))) (T.ite ((if evB k.I p.I (D.I (List.getD (List.getD a.L d.I.toNat []) (0 + 1) default)) (D.I (List.getD (List.getD a.L d.I.toNat []) (0 + 1 + 1) default)) (D.I (List.getD (List.getD a.L d.I.toNat []) (0 + 1 + 1 + 1) default)) (D.I (List.getD (List.getD a.L d.I.toNat []) (0 + 1 + 1 + 1 + 1) default)) = true then (0 : Int) else (2 : Int)) == (0 : Int)) (T.ite (D.I (List.getD (List.getD a.L d.I.toNat []) 0 default) != (3 : Int)) (T.leaf (Rd.again [D.i 1, D.l a.L, D.i b.I, D.i c.I, D.i 1, D.i (IntKind.wrap IntKind.i64 (d.I + (1 : Int))), D.i e.I, D.i f.I, D.i g.I, D.i h.I, D.i i.I, D.i j.I, D.i k.I, D.i l.I, D.i m.I, D.i n.I, D.i o.I, D.i p.I, D.b (hearE k.I p.I (D.I (List.getD (List.getD a.L d.I.toNat []) (0 + 1) default)) (D.I (List.getD (List.getD a.L d.I.toNat []) (0 + 1 + 1) default)) (D.I (List.getD (List.getD a.L d.I.toNat []) (0 + 1 + 1 + 1) default)) (D.I (List.getD (List.getD a.L d.I.toNat []) (0 + 1 + 1 + 1 + 1) default)) (gsOf (D.b q.B) (D.i r.I) (D.b s.B) (D.b t.B) (D.i u.I) (D.b v.B) (D.l z.L) (D.l z26.L) (D.l z27.L))).ov, D.i (hearE k.I p.I (D.I (List.getD (List.getD a.L d.I.toNat []) (0 + 1) default)) (D.I (List.getD (List.getD a.L d.I.toNat []) (0 + 1 + 1) default)) (D.I (List.getD (List.getD a.L d.I.toNat []) (0 + 1 + 1 + 1) default)) (D.I (List.getD (List.getD a.L d.I.toNat []) (0 + 1 + 1 + 1 + 1) default)) (gsOf (D.b q.B) (D.i r.I) (D.b s.B) (D.b t.B) (D.i u.I) (D.b v.B) (D.l z.L) (D.l z26.L) (D.l z27.L))).os, D.b (hearE k.I p.I (D.I (List.getD (List.getD a.L d.I.toNat []) (0 + 1) default)) (D.I (List.getD (List.getD a.L d.I.toNat []) (0 + 1 + 1) default)) (D.I (List.getD (List.getD a.L d.I.toNat []) (0 + 1 + 1 + 1) default)) (D.I (List.getD (List.getD a.L d.I.toNat []) (0 + 1 + 1 + 1 + 1) default)) (gsOf (D.b q.B) (D.i r.I) (D.b s.B) (D.b t.B) (D.i u.I) (D.b v.B) (D.l z.L) (D.l z26.L) (D.l z27.L))).oh, D.b (hearE k.I p.I (D.I (List.getD (List.getD a.L d.I.toNat []) (0 + 1) default)) (D.I (List.getD (List.getD a.L d.I.toNat []) (0 + 1 + 1) default)) (D.I (List.getD (List.getD a.L d.I.toNat []) (0 + 1 + 1 + 1) default)) (D.I (List.getD (List.getD a.L d.I.toNat []) (0 + 1 + 1 + 1 + 1) default)) (gsOf (D.b q.B) (D.i r.I) (D.b s.B) (D.b t.B) (D.i u.I) (D.b v.B) (D.l z.L) (D.l z26.L) (D.l z27.L))).cv, D.i (hearE k.I p.I (D.I (List.getD (List.getD a.L d.I.toNat []) (0 + 1) default)) (D.I (List.getD (List.getD a.L d.I.toNat []) (0 + 1 + 1) default)) (D.I (List.getD (List.getD a.L d.I.toNat []) (0 + 1 + 1 + 1) default)) (D.I (List.getD (List.getD a.L d.I.toNat []) (0 + 1 + 1 + 1 + 1) default)) (gsOf (D.b q.B) (D.i r.I) (D.b s.B) (D.b t.B) (D.i u.I) (D.b v.B) (D.l z.L) (D.l z26.L) (D.l z27.L))).cs, D.b (hearE k.I p.I (D.I (List.getD (List.getD a.L d.I.toNat []) (0 + 1) default)) (D.I (List.getD (List.getD a.L d.I.toNat []) (0 + 1 + 1) default)) (D.I (List.getD (List.getD a.L d.I.toNat []) (0 + 1 + 1 + 1) default)) (D.I (List.getD (List.getD a.L d.I.toNat []) (0 + 1 + 1 + 1 + 1) default)) (gsOf (D.b q.B) (D.i r.I) (D.b s.B) (D.b t.B) (D.i u.I) (D.b v.B) (D.l z.L) (D.l z26.L) (D.l z27.L))).ch, D.i (↑(Int.toNat (w.I.toNat : Int)) : Int), D.i (↑(Int.toNat (x.I.toNat : Int)) : Int), D.i (↑(Int.toNat (y.I.toNat : Int)) : Int), D.l [[D.i (D.I (List.getD (List.getD a.L d.I.toNat []) (0 + 1) default)), D.i (D.I (List.getD (List.getD a.L d.I.toNat []) (0 + 1 + 1) default)), D.i (D.I (List.getD (List.getD a.L d.I.toNat []) (0 + 1 + 1 + 1) default)), D.i (D.I (List.getD (List.getD a.L d.I.toNat []) (0 + 1 + 1 + 1 + 1) default))]], D.l (hearE k.I p.I (D.I (List.getD (List.getD a.L d.I.toNat []) (0 + 1) default)) (D.I (List.getD (List.getD a.L d.I.toNat []) (0 + 1 + 1) default)) (D.I (List.getD (List.getD a.L d.I.toNat []) (0 + 1 + 1 + 1) default)) (D.I (List.getD (List.getD a.L d.I.toNat []) (0 + 1 + 1 + 1 + 1) default)) (gsOf (D.b q.B) (D.i r.I) (D.b s.B) (D.b t.B) (D.i u.I) (D.b v.B) (D.l z.L) (D.l z26.L) (D.l z27.L))).rd, D.l (hearE k.I p.I (D.I (List.getD (List.getD a.L d.I.toNat []) (0 + 1) default)) (D.I (List.getD (List.getD a.L d.I.toNat []) (0 + 1 + 1) default)) (D.I (List.getD (List.getD a.L d.I.toNat []) (0 + 1 + 1 + 1) default)) (D.I (List.getD (List.getD a.L d.I.toNat []) (0 + 1 + 1 + 1 + 1) default)) (gsOf (D.b q.B) (D.i r.I) (D.b s.B) (D.b t.B) (D.i u.I) (D.b v.B) (D.l z.L) (D.l z26.L) (D.l z27.L))).po, D.l (hearE k.I p.I (D.I (List.getD (List.getD a.L d.I.toNat []) (0 + 1) default)) (D.I (List.getD (List.getD a.L d.I.toNat []) (0 + 1 + 1) default)) (D.I (List.getD (List.getD a.L d.I.toNat []) (0 + 1 + 1 + 1) default)) (D.I (List.getD (List.getD a.L d.I.toNat []) (0 + 1 + 1 + 1 + 1) default)) (gsOf (D.b q.B) (D.i r.I) (D.b s.B) (D.b t.B) (D.i u.I) (D.b v.B) (D.l z.L) (D.l z26.L) (D.l z27.L))).ca])) (T.elseT (T.needT (T.elseT (T.needT (T.thenT (T.needT (T.thenT (T.needT (T.thenT (roundT C tab13 (13 : FuncId) (loopOf C.P (13 : FuncId) 8) l13_8 [D.i 0, a, b, c, d, e, f, g, h, i, j, k, l, m, n, o, p, q, r, s, t, u, v, w, x, y, z, z26, z27]))))))))))) (T.ite (D.I (List.getD (List.getD a.L d.I.toNat []) 0 default) != (3 : Int)) (T.leaf (Rd.again [D.i 0, D.l a.L, D.i b.I, D.i c.I, D.i (IntKind.wrap IntKind.i64 (d.I + (1 : Int))), D.i e.I, D.i f.I, D.i g.I, D.i h.I, D.i i.I, D.i j.I, D.i k.I, D.i l.I, D.i m.I, D.i n.I, D.i o.I, D.i p.I, D.b (hearE k.I p.I (D.I (List.getD (List.getD a.L d.I.toNat []) (0 + 1) default)) (D.I (List.getD (List.getD a.L d.I.toNat []) (0 + 1 + 1) default)) (D.I (List.getD (List.getD a.L d.I.toNat []) (0 + 1 + 1 + 1) default)) (D.I (List.getD (List.getD a.L d.I.toNat []) (0 + 1 + 1 + 1 + 1) default)) (gsOf (D.b q.B) (D.i r.I) (D.b s.B) (D.b t.B) (D.i u.I) (D.b v.B) (D.l z.L) (D.l z26.L) (D.l z27.L))).ov, D.i (hearE k.I p.I (D.I (List.getD (List.getD a.L d.I.toNat []) (0 + 1) default)) (D.I (List.getD (List.getD a.L d.I.toNat []) (0 + 1 + 1) default)) (D.I (List.getD (List.getD a.L d.I.toNat []) (0 + 1 + 1 + 1) default)) (D.I (List.getD (List.getD a.L d.I.toNat []) (0 + 1 + 1 + 1 + 1) default)) (gsOf (D.b q.B) (D.i r.I) (D.b s.B) (D.b t.B) (D.i u.I) (D.b v.B) (D.l z.L) (D.l z26.L) (D.l z27.L))).os, D.b (hearE k.I p.I (D.I (List.getD (List.getD a.L d.I.toNat []) (0 + 1) default)) (D.I (List.getD (List.getD a.L d.I.toNat []) (0 + 1 + 1) default)) (D.I (List.getD (List.getD a.L d.I.toNat []) (0 + 1 + 1 + 1) default)) (D.I (List.getD (List.getD a.L d.I.toNat []) (0 + 1 + 1 + 1 + 1) default)) (gsOf (D.b q.B) (D.i r.I) (D.b s.B) (D.b t.B) (D.i u.I) (D.b v.B) (D.l z.L) (D.l z26.L) (D.l z27.L))).oh, D.b (hearE k.I p.I (D.I (List.getD (List.getD a.L d.I.toNat []) (0 + 1) default)) (D.I (List.getD (List.getD a.L d.I.toNat []) (0 + 1 + 1) default)) (D.I (List.getD (List.getD a.L d.I.toNat []) (0 + 1 + 1 + 1) default)) (D.I (List.getD (List.getD a.L d.I.toNat []) (0 + 1 + 1 + 1 + 1) default)) (gsOf (D.b q.B) (D.i r.I) (D.b s.B) (D.b t.B) (D.i u.I) (D.b v.B) (D.l z.L) (D.l z26.L) (D.l z27.L))).cv, D.i (hearE k.I p.I (D.I (List.getD (List.getD a.L d.I.toNat []) (0 + 1) default)) (D.I (List.getD (List.getD a.L d.I.toNat []) (0 + 1 + 1) default)) (D.I (List.getD (List.getD a.L d.I.toNat []) (0 + 1 + 1 + 1) default)) (D.I (List.getD (List.getD a.L d.I.toNat []) (0 + 1 + 1 + 1 + 1) default)) (gsOf (D.b q.B) (D.i r.I) (D.b s.B) (D.b t.B) (D.i u.I) (D.b v.B) (D.l z.L) (D.l z26.L) (D.l z27.L))).cs, D.b (hearE k.I p.I (D.I (List.getD (List.getD a.L d.I.toNat []) (0 + 1) default)) (D.I (List.getD (List.getD a.L d.I.toNat []) (0 + 1 + 1) default)) (D.I (List.getD (List.getD a.L d.I.toNat []) (0 + 1 + 1 + 1) default)) (D.I (List.getD (List.getD a.L d.I.toNat []) (0 + 1 + 1 + 1 + 1) default)) (gsOf (D.b q.B) (D.i r.I) (D.b s.B) (D.b t.B) (D.i u.I) (D.b v.B) (D.l z.L) (D.l z26.L) (D.l z27.L))).ch, D.i (↑(Int.toNat (w.I.toNat : Int)) : Int), D.i (↑(Int.toNat (x.I.toNat : Int)) : Int), D.i (↑(Int.toNat (y.I.toNat : Int)) : Int), D.l (hearE k.I p.I (D.I (List.getD (List.getD a.L d.I.toNat []) (0 + 1) default)) (D.I (List.getD (List.getD a.L d.I.toNat []) (0 + 1 + 1) default)) (D.I (List.getD (List.getD a.L d.I.toNat []) (0 + 1 + 1 + 1) default)) (D.I (List.getD (List.getD a.L d.I.toNat []) (0 + 1 + 1 + 1 + 1) default)) (gsOf (D.b q.B) (D.i r.I) (D.b s.B) (D.b t.B) (D.i u.I) (D.b v.B) (D.l z.L) (D.l z26.L) (D.l z27.L))).rd, D.l (hearE k.I p.I (D.I (List.getD (List.getD a.L d.I.toNat []) (0 + 1) default)) (D.I (List.getD (List.getD a.L d.I.toNat []) (0 + 1 + 1) default)) (D.I (List.getD (List.getD a.L d.I.toNat []) (0 + 1 + 1 + 1) default)) (D.I (List.getD (List.getD a.L d.I.toNat []) (0 + 1 + 1 + 1 + 1) default)) (gsOf (D.b q.B) (D.i r.I) (D.b s.B) (D.b t.B) (D.i u.I) (D.b v.B) (D.l z.L) (D.l z26.L) (D.l z27.L))).po, D.l (hearE k.I p.I (D.I (List.getD (List.getD a.L d.I.toNat []) (0 + 1) default)) (D.I (List.getD (List.getD a.L d.I.toNat []) (0 + 1 + 1) default)) (D.I (List.getD (List.getD a.L d.I.toNat []) (0 + 1 + 1 + 1) default)) (D.I (List.getD (List.getD a.L d.I.toNat []) (0 + 1 + 1 + 1 + 1) default)) (gsOf (D.b q.B) (D.i r.I) (D.b s.B) (D.b t.B) (D.i u.I) (D.b v.B) (D.l z.L) (D.l z26.L) (D.l z27.L))).ca])) (T.elseT (T.elseT (T.needT (T.thenT (T.needT (T.thenT (roundT C tab13 (13 : FuncId) (loopOf C.P (13 : FuncId) 8) l13_8 [D.i 0, a, b, c, d, e, f, g, h, i, j, k, l, m, n, o, p, q, r, s, t, u, v, w, x, y, z, z26, z27])))))))))) (T.ite (D.I (List.getD (List.getD a.L d.I.toNat []) 0 default) != (3 : Int)) (T.leaf (Rd.again [D.i 0, D.l a.L, D.i b.I, D.i c.I, D.i (IntKind.wrap IntKind.i64 (d.I + (1 : Int))), D.i e.I, D.i f.I, D.i g.I, D.i h.I, D.i i.I, D.i j.I, D.i k.I, D.i l.I, D.i m.I, D.i n.I, D.i o.I, D.i p.I, D.b q.B, D.i r.I, D.b s.B, D.b t.B, D.i u.I, D.b v.B, D.i (w.I.toNat : Int), D.i (x.I.toNat : Int), D.i (y.I.toNat : Int), D.l z.L, D.l z26.L, D.l z27.L])) (T.need (yes (OkS k.I l.I m.I n.I o.I p.I (w.I.toNat : Int) (x.I.toNat : Int) (y.I.toNat : Int) (gsOf (D.b q.B) (D.i r.I) (D.b s.B) (D.b t.B) (D.i u.I) (D.b v.B) (D.l z.L) (D.l z26.L) (D.l z27.L)))) (T.ite (validB p.I (D.I (List.getD (List.getD a.L d.I.toNat []) (0 + 1 + 1 + 1 + 1 + 1) default)) (D.I (List.getD (List.getD a.L d.I.toNat []) (0 + 1 + 1 + 1 + 1 + 1 + 1) default)) && !List.isEmpty (rulesF (ruleB k.I l.I m.I n.I o.I q.B t.B z.L z26.L z27.L (D.I (List.getD (List.getD a.L d.I.toNat []) (0 + 1 + 1 + 1 + 1 + 1) default)) (D.I (List.getD (List.getD a.L d.I.toNat []) (0 + 1 + 1 + 1 + 1 + 1 + 1) default))) 0 8 [])) (T.ite (decide ((↑(Int.toNat (↑(List.length (rulesF (ruleB k.I l.I m.I n.I o.I q.B t.B z.L z26.L z27.L (D.I (List.getD (List.getD a.L d.I.toNat []) (0 + 1 + 1 + 1 + 1 + 1) default)) (D.I (List.getD (List.getD a.L d.I.toNat []) (0 + 1 + 1 + 1 + 1 + 1 + 1) default))) 0 8 [])) : Int)) : Int) > (0 : Int))) (T.need (yes (OkS k.I l.I m.I n.I o.I p.I (↑(Int.toNat (w.I.toNat : Int)) : Int) (↑(Int.toNat (x.I.toNat : Int)) : Int) (↑(Int.toNat (y.I.toNat : Int)) : Int) (gsOf (D.b q.B) (D.i r.I) (D.b s.B) (D.b t.B) (D.i u.I) (D.b v.B) (D.l z.L) (D.l z26.L) (D.l z27.L)))) (T.ite ((if validB p.I (D.I (List.getD (List.getD a.L d.I.toNat []) (0 + 1 + 1 + 1 + 1 + 1) default)) (D.I (List.getD (List.getD a.L d.I.toNat []) (0 + 1 + 1 + 1 + 1 + 1 + 1) default)) = true then if List.isEmpty (rulesF (ruleB k.I l.I m.I n.I o.I q.B t.B z.L z26.L z27.L (D.I (List.getD (List.getD a.L d.I.toNat []) (0 + 1 + 1 + 1 + 1 + 1) default)) (D.I (List.getD (List.getD a.L d.I.toNat []) (0 + 1 + 1 + 1 + 1 + 1 + 1) default))) 0 8 []) = true then (0 : Int) else (7 : Int) else (2 : Int)) != (7 : Int)) (T.leaf (Rd.out Ex.ret [D.b false])) (T.leaf (Rd.again [D.i 0, D.l a.L, D.i b.I, D.i c.I, D.i (IntKind.wrap IntKind.i64 (d.I + (1 : Int))), D.i e.I, D.i f.I, D.i g.I, D.i h.I, D.i i.I, D.i j.I, D.i k.I, D.i l.I, D.i m.I, D.i n.I, D.i o.I, D.i p.I, D.b q.B, D.i r.I, D.b s.B, D.b t.B, D.i u.I, D.b v.B, D.i (↑(Int.toNat (↑(Int.toNat (w.I.toNat : Int)) : Int)) : Int), D.i (↑(Int.toNat (↑(Int.toNat (x.I.toNat : Int)) : Int)) : Int), D.i (↑(Int.toNat (↑(Int.toNat (y.I.toNat : Int)) : Int)) : Int), D.l z.L, D.l z26.L, D.l (startE k.I l.I m.I n.I o.I p.I (D.I (List.getD (List.getD a.L d.I.toNat []) (0 + 1 + 1 + 1 + 1 + 1) default)) (D.I (List.getD (List.getD a.L d.I.toNat []) (0 + 1 + 1 + 1 + 1 + 1 + 1) default)) (gsOf (D.b q.B) (D.i r.I) (D.b s.B) (D.b t.B) (D.i u.I) (D.b v.B) (D.l z.L) (D.l z26.L) (D.l z27.L))).ca])))) (T.elseT (T.elseT (T.thenT (T.needT (T.elseT (T.elseT (T.needT (T.thenT (roundT C tab13 (13 : FuncId) (loopOf C.P (13 : FuncId) 8) l13_8 [D.i 0, a, b, c, d, e, f, g, h, i, j, k, l, m, n, o, p, q, r, s, t, u, v, w, x, y, z, z26, z27])))))))))) (T.ite ((if validB p.I (D.I (List.getD (List.getD a.L d.I.toNat []) (0 + 1 + 1 + 1 + 1 + 1) default)) (D.I (List.getD (List.getD a.L d.I.toNat []) (0 + 1 + 1 + 1 + 1 + 1 + 1) default)) = true then (0 : Int) else (2 : Int)) != (0 : Int)) (T.need (yes (OkS k.I l.I m.I n.I o.I p.I (↑(Int.toNat (w.I.toNat : Int)) : Int) (↑(Int.toNat (x.I.toNat : Int)) : Int) (↑(Int.toNat (y.I.toNat : Int)) : Int) (gsOf (D.b q.B) (D.i r.I) (D.b s.B) (D.b t.B) (D.i u.I) (D.b v.B) (D.l z.L) (D.l z26.L) (D.l z27.L)))) (T.ite ((if validB p.I (D.I (List.getD (List.getD a.L d.I.toNat []) (0 + 1 + 1 + 1 + 1 + 1) default)) (D.I (List.getD (List.getD a.L d.I.toNat []) (0 + 1 + 1 + 1 + 1 + 1 + 1) default)) = true then if List.isEmpty (rulesF (ruleB k.I l.I m.I n.I o.I q.B t.B z.L z26.L z27.L (D.I (List.getD (List.getD a.L d.I.toNat []) (0 + 1 + 1 + 1 + 1 + 1) default)) (D.I (List.getD (List.getD a.L d.I.toNat []) (0 + 1 + 1 + 1 + 1 + 1 + 1) default))) 0 8 []) = true then (0 : Int) else (7 : Int) else (2 : Int)) != (2 : Int)) (T.leaf (Rd.out Ex.ret [D.b false])) (T.leaf (Rd.again [D.i 0, D.l a.L, D.i b.I, D.i c.I, D.i (IntKind.wrap IntKind.i64 (d.I + (1 : Int))), D.i e.I, D.i f.I, D.i g.I, D.i h.I, D.i i.I, D.i j.I, D.i k.I, D.i l.I, D.i m.I, D.i n.I, D.i o.I, D.i p.I, D.b q.B, D.i r.I, D.b s.B, D.b t.B, D.i u.I, D.b v.B, D.i (↑(Int.toNat (↑(Int.toNat (w.I.toNat : Int)) : Int)) : Int), D.i (↑(Int.toNat (↑(Int.toNat (x.I.toNat : Int)) : Int)) : Int), D.i (↑(Int.toNat (↑(Int.toNat (y.I.toNat : Int)) : Int)) : Int), D.l z.L, D.l z26.L, D.l (startE k.I l.I m.I n.I o.I p.I (D.I (List.getD (List.getD a.L d.I.toNat []) (0 + 1 + 1 + 1 + 1 + 1) default)) (D.I (List.getD (List.getD a.L d.I.toNat []) (0 + 1 + 1 + 1 + 1 + 1 + 1) default)) (gsOf (D.b q.B) (D.i r.I) (D.b s.B) (D.b t.B) (D.i u.I) (D.b v.B) (D.l z.L) (D.l z26.L) (D.l z27.L))).ca])))) (T.need (decide (Int.toNat (w.I.toNat : Int) ≤ z.L.length)) (T.need (decide (Int.toNat (x.I.toNat : Int) ≤ z26.L.length)) (T.need (decide (Int.toNat (y.I.toNat : Int) ≤ z27.L.length)) (T.need (yes (List.length ([] : List (List D)) ≤ 1000 ∧ (((0 : Int) ≤ D.I (List.getD (List.getD a.L d.I.toNat []) (0 + 1 + 1 + 1 + 1 + 1 + 1) default) ∧ D.I (List.getD (List.getD a.L d.I.toNat []) (0 + 1 + 1 + 1 + 1 + 1 + 1) default) ≤ (100000 : Int)) ∧ okPl e.I f.I g.I h.I i.I j.I) ∧ j.I = p.I ∧ (↑(List.length (List.take (Int.toNat (y.I.toNat : Int)) z27.L)) : Int) = p.I)) (T.leaf (Rd.out Ex.ret [D.b false])))))))))))) (T.leaf (Rd.out (Ex.exit 0) []))) := by kernel_rfl
end Go.Proofs.Ytgmefblkmidglaa
namespace Go.Proofs.Ytgmefblkmidglaa
open Go.Lite
set_option linter.unusedVariables false
set_option maxRecDepth 100000
theorem t13_8_1 (a b c d e f g h i j k l m n o p q r s t u v w x y z z26 z27 z28 z29 : D) : (roundT C tab13 13 (loopOf C.P 13 8) l13_8 (.i 1 :: [a, b, c, d, e, f, g, h, i, j, k, l, m, n, o, p, q, r, s, t, u, v, w, x, y, z, z26, z27, z28, z29])).run =
  T.run (T.ite (decide (e.I < (a.L.length : Int))) (T.need (decide ((0 : Int) ≤ e.I ∧ e.I < (a.L.length : Int))) (T.ite (D.I (List.getD (List.getD a.L e.I.toNat []) 0 default) == (1 : Int)) (T.need (yes (OkS l.I m.I n.I o.I p.I q.I (x.I.toNat : Int) (y.I.toNat : Int) (z.I.toNat : Int) (gsOf (D.b r.B) (D.i s.I) (D.b t.B) (D.b u.B) (D.i v.I) (D.b w.B) (D.l z27.L) (D.l z28.L) (D.l z29.L)))) (T.ite ((if evB l.I q.I (D.I (List.getD (List.getD a.L e.I.toNat []) (0 + 1) default)) (D.I (List.getD (List.getD a.L e.I.toNat []) (0 + 1 + 1) default)) (D.I (List.getD (List.getD a.L e.I.toNat []) (0 + 1 + 1 + 1) default)) (D.I (List.getD (List.getD a.L e.I.toNat []) (0 + 1 + 1 + 1 + 1) default)) = true then (0 : Int) else (2 : Int)) == (0 : Int)) (T.need (decide (d.I.toNat ≤ z26.L.length ∧ d.I.toNat + 1 ≤ 2 ^ 62 ∧ (d.I.toNat + 1) * Try.prog.types[81].bytes ≤ 2 ^ 47)) (T.ite (D.I (List.getD (List.getD a.L e.I.toNat []) 0 default) != (3 : Int)) (T.leaf (Rd.again [D.i 1, D.l a.L, D.i b.I, D.i c.I, D.i (↑(d.I.toNat + 1) : Int), D.i (IntKind.wrap IntKind.i64 (e.I + (1 : Int))), D.i f.I, D.i g.I, D.i h.I, D.i i.I, D.i j.I, D.i k.I, D.i l.I, D.i m.I, D.i n.I, D.i o.I, D.i p.I, D.i q.I, D.b (hearE l.I q.I (D.I (List.getD (List.getD a.L e.I.toNat []) (0 + 1) default)) (D.I (List.getD (List.getD a.L e.I.toNat []) (0 + 1 + 1) default)) (D.I (List.getD (List.getD a.L e.I.toNat []) (0 + 1 + 1 + 1) default)) (D.I (List.getD (List.getD a.L e.I.toNat []) (0 + 1 + 1 + 1 + 1) default)) (gsOf (D.b r.B) (D.i s.I) (D.b t.B) (D.b u.B) (D.i v.I) (D.b w.B) (D.l z27.L) (D.l z28.L) (D.l z29.L))).ov, D.i (hearE l.I q.I (D.I (List.getD (List.getD a.L e.I.toNat []) (0 + 1) default)) (D.I (List.getD (List.getD a.L e.I.toNat []) (0 + 1 + 1) default)) (D.I (List.getD (List.getD a.L e.I.toNat []) (0 + 1 + 1 + 1) default)) (D.I (List.getD (List.getD a.L e.I.toNat []) (0 + 1 + 1 + 1 + 1) default)) (gsOf (D.b r.B) (D.i s.I) (D.b t.B) (D.b u.B) (D.i v.I) (D.b w.B) (D.l z27.L) (D.l z28.L) (D.l z29.L))).os, D.b (hearE l.I q.I (D.I (List.getD (List.getD a.L e.I.toNat []) (0 + 1) default)) (D.I (List.getD (List.getD a.L e.I.toNat []) (0 + 1 + 1) default)) (D.I (List.getD (List.getD a.L e.I.toNat []) (0 + 1 + 1 + 1) default)) (D.I (List.getD (List.getD a.L e.I.toNat []) (0 + 1 + 1 + 1 + 1) default)) (gsOf (D.b r.B) (D.i s.I) (D.b t.B) (D.b u.B) (D.i v.I) (D.b w.B) (D.l z27.L) (D.l z28.L) (D.l z29.L))).oh, D.b (hearE l.I q.I (D.I (List.getD (List.getD a.L e.I.toNat []) (0 + 1) default)) (D.I (List.getD (List.getD a.L e.I.toNat []) (0 + 1 + 1) default)) (D.I (List.getD (List.getD a.L e.I.toNat []) (0 + 1 + 1 + 1) default)) (D.I (List.getD (List.getD a.L e.I.toNat []) (0 + 1 + 1 + 1 + 1) default)) (gsOf (D.b r.B) (D.i s.I) (D.b t.B) (D.b u.B) (D.i v.I) (D.b w.B) (D.l z27.L) (D.l z28.L) (D.l z29.L))).cv, D.i (hearE l.I q.I (D.I (List.getD (List.getD a.L e.I.toNat []) (0 + 1) default)) (D.I (List.getD (List.getD a.L e.I.toNat []) (0 + 1 + 1) default)) (D.I (List.getD (List.getD a.L e.I.toNat []) (0 + 1 + 1 + 1) default)) (D.I (List.getD (List.getD a.L e.I.toNat []) (0 + 1 + 1 + 1 + 1) default)) (gsOf (D.b r.B) (D.i s.I) (D.b t.B) (D.b u.B) (D.i v.I) (D.b w.B) (D.l z27.L) (D.l z28.L) (D.l z29.L))).cs, D.b (hearE l.I q.I (D.I (List.getD (List.getD a.L e.I.toNat []) (0 + 1) default)) (D.I (List.getD (List.getD a.L e.I.toNat []) (0 + 1 + 1) default)) (D.I (List.getD (List.getD a.L e.I.toNat []) (0 + 1 + 1 + 1) default)) (D.I (List.getD (List.getD a.L e.I.toNat []) (0 + 1 + 1 + 1 + 1) default)) (gsOf (D.b r.B) (D.i s.I) (D.b t.B) (D.b u.B) (D.i v.I) (D.b w.B) (D.l z27.L) (D.l z28.L) (D.l z29.L))).ch, D.i (↑(Int.toNat (x.I.toNat : Int)) : Int), D.i (↑(Int.toNat (y.I.toNat : Int)) : Int), D.i (↑(Int.toNat (z.I.toNat : Int)) : Int), D.l (List.take d.I.toNat z26.L ++ List.take (List.length [[D.i (D.I (List.getD (List.getD a.L e.I.toNat []) (0 + 1) default)), D.i (D.I (List.getD (List.getD a.L e.I.toNat []) (0 + 1 + 1) default)), D.i (D.I (List.getD (List.getD a.L e.I.toNat []) (0 + 1 + 1 + 1) default)), D.i (D.I (List.getD (List.getD a.L e.I.toNat []) (0 + 1 + 1 + 1 + 1) default))]]) [[D.i (D.I (List.getD (List.getD a.L e.I.toNat []) (0 + 1) default)), D.i (D.I (List.getD (List.getD a.L e.I.toNat []) (0 + 1 + 1) default)), D.i (D.I (List.getD (List.getD a.L e.I.toNat []) (0 + 1 + 1 + 1) default)), D.i (D.I (List.getD (List.getD a.L e.I.toNat []) (0 + 1 + 1 + 1 + 1) default))]]), D.l (hearE l.I q.I (D.I (List.getD (List.getD a.L e.I.toNat []) (0 + 1) default)) (D.I (List.getD (List.getD a.L e.I.toNat []) (0 + 1 + 1) default)) (D.I (List.getD (List.getD a.L e.I.toNat []) (0 + 1 + 1 + 1) default)) (D.I (List.getD (List.getD a.L e.I.toNat []) (0 + 1 + 1 + 1 + 1) default)) (gsOf (D.b r.B) (D.i s.I) (D.b t.B) (D.b u.B) (D.i v.I) (D.b w.B) (D.l z27.L) (D.l z28.L) (D.l z29.L))).rd, D.l (hearE l.I q.I (D.I (List.getD (List.getD a.L e.I.toNat []) (0 + 1) default)) (D.I (List.getD (List.getD a.L e.I.toNat []) (0 + 1 + 1) default)) (D.I (List.getD (List.getD a.L e.I.toNat []) (0 + 1 + 1 + 1) default)) (D.I (List.getD (List.getD a.L e.I.toNat []) (0 + 1 + 1 + 1 + 1) default)) (gsOf (D.b r.B) (D.i s.I) (D.b t.B) (D.b u.B) (D.i v.I) (D.b w.B) (D.l z27.L) (D.l z28.L) (D.l z29.L))).po, D.l (hearE l.I q.I (D.I (List.getD (List.getD a.L e.I.toNat []) (0 + 1) default)) (D.I (List.getD (List.getD a.L e.I.toNat []) (0 + 1 + 1) default)) (D.I (List.getD (List.getD a.L e.I.toNat []) (0 + 1 + 1 + 1) default)) (D.I (List.getD (List.getD a.L e.I.toNat []) (0 + 1 + 1 + 1 + 1) default)) (gsOf (D.b r.B) (D.i s.I) (D.b t.B) (D.b u.B) (D.i v.I) (D.b w.B) (D.l z27.L) (D.l z28.L) (D.l z29.L))).ca])) (T.elseT (T.needT (T.elseT (T.needT (T.thenT (T.needT (T.thenT (T.needT (T.thenT (roundT C tab13 (13 : FuncId) (loopOf C.P (13 : FuncId) 8) l13_8 [D.i 1, a, b, c, d, e, f, g, h, i, j, k, l, m, n, o, p, q, r, s, t, u, v, w, x, y, z, z26, z27, z28, z29])))))))))))) (T.ite (D.I (List.getD (List.getD a.L e.I.toNat []) 0 default) != (3 : Int)) (T.leaf (Rd.again [D.i 1, D.l a.L, D.i b.I, D.i c.I, D.i (d.I.toNat : Int), D.i (IntKind.wrap IntKind.i64 (e.I + (1 : Int))), D.i f.I, D.i g.I, D.i h.I, D.i i.I, D.i j.I, D.i k.I, D.i l.I, D.i m.I, D.i n.I, D.i o.I, D.i p.I, D.i q.I, D.b (hearE l.I q.I (D.I (List.getD (List.getD a.L e.I.toNat []) (0 + 1) default)) (D.I (List.getD (List.getD a.L e.I.toNat []) (0 + 1 + 1) default)) (D.I (List.getD (List.getD a.L e.I.toNat []) (0 + 1 + 1 + 1) default)) (D.I (List.getD (List.getD a.L e.I.toNat []) (0 + 1 + 1 + 1 + 1) default)) (gsOf (D.b r.B) (D.i s.I) (D.b t.B) (D.b u.B) (D.i v.I) (D.b w.B) (D.l z27.L) (D.l z28.L) (D.l z29.L))).ov, D.i (hearE l.I q.I (D.I (List.getD (List.getD a.L e.I.toNat []) (0 + 1) default)) (D.I (List.getD (List.getD a.L e.I.toNat []) (0 + 1 + 1) default)) (D.I (List.getD (List.getD a.L e.I.toNat []) (0 + 1 + 1 + 1) default)) (D.I (List.getD (List.getD a.L e.I.toNat []) (0 + 1 + 1 + 1 + 1) default)) (gsOf (D.b r.B) (D.i s.I) (D.b t.B) (D.b u.B) (D.i v.I) (D.b w.B) (D.l z27.L) (D.l z28.L) (D.l z29.L))).os, D.b (hearE l.I q.I (D.I (List.getD (List.getD a.L e.I.toNat []) (0 + 1) default)) (D.I (List.getD (List.getD a.L e.I.toNat []) (0 + 1 + 1) default)) (D.I (List.getD (List.getD a.L e.I.toNat []) (0 + 1 + 1 + 1) default)) (D.I (List.getD (List.getD a.L e.I.toNat []) (0 + 1 + 1 + 1 + 1) default)) (gsOf (D.b r.B) (D.i s.I) (D.b t.B) (D.b u.B) (D.i v.I) (D.b w.B) (D.l z27.L) (D.l z28.L) (D.l z29.L))).oh, D.b (hearE l.I q.I (D.I (List.getD (List.getD a.L e.I.toNat []) (0 + 1) default)) (D.I (List.getD (List.getD a.L e.I.toNat []) (0 + 1 + 1) default)) (D.I (List.getD (List.getD a.L e.I.toNat []) (0 + 1 + 1 + 1) default)) (D.I (List.getD (List.getD a.L e.I.toNat []) (0 + 1 + 1 + 1 + 1) default)) (gsOf (D.b r.B) (D.i s.I) (D.b t.B) (D.b u.B) (D.i v.I) (D.b w.B) (D.l z27.L) (D.l z28.L) (D.l z29.L))).cv, D.i (hearE l.I q.I (D.I (List.getD (List.getD a.L e.I.toNat []) (0 + 1) default)) (D.I (List.getD (List.getD a.L e.I.toNat []) (0 + 1 + 1) default)) (D.I (List.getD (List.getD a.L e.I.toNat []) (0 + 1 + 1 + 1) default)) (D.I (List.getD (List.getD a.L e.I.toNat []) (0 + 1 + 1 + 1 + 1) default)) (gsOf (D.b r.B) (D.i s.I) (D.b t.B) (D.b u.B) (D.i v.I) (D.b w.B) (D.l z27.L) (D.l z28.L) (D.l z29.L))).cs, D.b (hearE l.I q.I (D.I (List.getD (List.getD a.L e.I.toNat []) (0 + 1) default)) (D.I (List.getD (List.getD a.L e.I.toNat []) (0 + 1 + 1) default)) (D.I (List.getD (List.getD a.L e.I.toNat []) (0 + 1 + 1 + 1) default)) (D.I (List.getD (List.getD a.L e.I.toNat []) (0 + 1 + 1 + 1 + 1) default)) (gsOf (D.b r.B) (D.i s.I) (D.b t.B) (D.b u.B) (D.i v.I) (D.b w.B) (D.l z27.L) (D.l z28.L) (D.l z29.L))).ch, D.i (↑(Int.toNat (x.I.toNat : Int)) : Int), D.i (↑(Int.toNat (y.I.toNat : Int)) : Int), D.i (↑(Int.toNat (z.I.toNat : Int)) : Int), D.l z26.L, D.l (hearE l.I q.I (D.I (List.getD (List.getD a.L e.I.toNat []) (0 + 1) default)) (D.I (List.getD (List.getD a.L e.I.toNat []) (0 + 1 + 1) default)) (D.I (List.getD (List.getD a.L e.I.toNat []) (0 + 1 + 1 + 1) default)) (D.I (List.getD (List.getD a.L e.I.toNat []) (0 + 1 + 1 + 1 + 1) default)) (gsOf (D.b r.B) (D.i s.I) (D.b t.B) (D.b u.B) (D.i v.I) (D.b w.B) (D.l z27.L) (D.l z28.L) (D.l z29.L))).rd, D.l (hearE l.I q.I (D.I (List.getD (List.getD a.L e.I.toNat []) (0 + 1) default)) (D.I (List.getD (List.getD a.L e.I.toNat []) (0 + 1 + 1) default)) (D.I (List.getD (List.getD a.L e.I.toNat []) (0 + 1 + 1 + 1) default)) (D.I (List.getD (List.getD a.L e.I.toNat []) (0 + 1 + 1 + 1 + 1) default)) (gsOf (D.b r.B) (D.i s.I) (D.b t.B) (D.b u.B) (D.i v.I) (D.b w.B) (D.l z27.L) (D.l z28.L) (D.l z29.L))).po, D.l (hearE l.I q.I (D.I (List.getD (List.getD a.L e.I.toNat []) (0 + 1) default)) (D.I (List.getD (List.getD a.L e.I.toNat []) (0 + 1 + 1) default)) (D.I (List.getD (List.getD a.L e.I.toNat []) (0 + 1 + 1 + 1) default)) (D.I (List.getD (List.getD a.L e.I.toNat []) (0 + 1 + 1 + 1 + 1) default)) (gsOf (D.b r.B) (D.i s.I) (D.b t.B) (D.b u.B) (D.i v.I) (D.b w.B) (D.l z27.L) (D.l z28.L) (D.l z29.L))).ca])) (T.elseT (T.elseT (T.needT (T.thenT (T.needT (T.thenT (roundT C tab13 (13 : FuncId) (loopOf C.P (13 : FuncId) 8) l13_8 [D.i 1, a, b, c, d, e, f, g, h, i, j, k, l, m, n, o, p, q, r, s, t, u, v, w, x, y, z, z26, z27, z28, z29])))))))))) (T.ite (D.I (List.getD (List.getD a.L e.I.toNat []) 0 default) != (3 : Int)) (T.leaf (Rd.again [D.i 1, D.l a.L, D.i b.I, D.i c.I, D.i (d.I.toNat : Int), D.i (IntKind.wrap IntKind.i64 (e.I + (1 : Int))), D.i f.I, D.i g.I, D.i h.I, D.i i.I, D.i j.I, D.i k.I, D.i l.I, D.i m.I, D.i n.I, D.i o.I, D.i p.I, D.i q.I, D.b r.B, D.i s.I, D.b t.B, D.b u.B, D.i v.I, D.b w.B, D.i (x.I.toNat : Int), D.i (y.I.toNat : Int), D.i (z.I.toNat : Int), D.l z26.L, D.l z27.L, D.l z28.L, D.l z29.L])) (T.need (yes (OkS l.I m.I n.I o.I p.I q.I (x.I.toNat : Int) (y.I.toNat : Int) (z.I.toNat : Int) (gsOf (D.b r.B) (D.i s.I) (D.b t.B) (D.b u.B) (D.i v.I) (D.b w.B) (D.l z27.L) (D.l z28.L) (D.l z29.L)))) (T.ite (validB q.I (D.I (List.getD (List.getD a.L e.I.toNat []) (0 + 1 + 1 + 1 + 1 + 1) default)) (D.I (List.getD (List.getD a.L e.I.toNat []) (0 + 1 + 1 + 1 + 1 + 1 + 1) default)) && !List.isEmpty (rulesF (ruleB l.I m.I n.I o.I p.I r.B u.B z27.L z28.L z29.L (D.I (List.getD (List.getD a.L e.I.toNat []) (0 + 1 + 1 + 1 + 1 + 1) default)) (D.I (List.getD (List.getD a.L e.I.toNat []) (0 + 1 + 1 + 1 + 1 + 1 + 1) default))) 0 8 [])) (T.ite (decide ((↑(Int.toNat (↑(List.length (rulesF (ruleB l.I m.I n.I o.I p.I r.B u.B z27.L z28.L z29.L (D.I (List.getD (List.getD a.L e.I.toNat []) (0 + 1 + 1 + 1 + 1 + 1) default)) (D.I (List.getD (List.getD a.L e.I.toNat []) (0 + 1 + 1 + 1 + 1 + 1 + 1) default))) 0 8 [])) : Int)) : Int) > (0 : Int))) (T.need (yes (OkS l.I m.I n.I o.I p.I q.I (↑(Int.toNat (x.I.toNat : Int)) : Int) (↑(Int.toNat (y.I.toNat : Int)) : Int) (↑(Int.toNat (z.I.toNat : Int)) : Int) (gsOf (D.b r.B) (D.i s.I) (D.b t.B) (D.b u.B) (D.i v.I) (D.b w.B) (D.l z27.L) (D.l z28.L) (D.l z29.L)))) (T.ite ((if validB q.I (D.I (List.getD (List.getD a.L e.I.toNat []) (0 + 1 + 1 + 1 + 1 + 1) default)) (D.I (List.getD (List.getD a.L e.I.toNat []) (0 + 1 + 1 + 1 + 1 + 1 + 1) default)) = true then if List.isEmpty (rulesF (ruleB l.I m.I n.I o.I p.I r.B u.B z27.L z28.L z29.L (D.I (List.getD (List.getD a.L e.I.toNat []) (0 + 1 + 1 + 1 + 1 + 1) default)) (D.I (List.getD (List.getD a.L e.I.toNat []) (0 + 1 + 1 + 1 + 1 + 1 + 1) default))) 0 8 []) = true then (0 : Int) else (7 : Int) else (2 : Int)) != (7 : Int)) (T.leaf (Rd.out Ex.ret [D.b false])) (T.leaf (Rd.again [D.i 1, D.l a.L, D.i b.I, D.i c.I, D.i (d.I.toNat : Int), D.i (IntKind.wrap IntKind.i64 (e.I + (1 : Int))), D.i f.I, D.i g.I, D.i h.I, D.i i.I, D.i j.I, D.i k.I, D.i l.I, D.i m.I, D.i n.I, D.i o.I, D.i p.I, D.i q.I, D.b r.B, D.i s.I, D.b t.B, D.b u.B, D.i v.I, D.b w.B, D.i (↑(Int.toNat (↑(Int.toNat (x.I.toNat : Int)) : Int)) : Int), D.i (↑(Int.toNat (↑(Int.toNat (y.I.toNat : Int)) : Int)) : Int), D.i (↑(Int.toNat (↑(Int.toNat (z.I.toNat : Int)) : Int)) : Int), D.l z26.L, D.l z27.L, D.l z28.L, D.l (startE l.I m.I n.I o.I p.I q.I (D.I (List.getD (List.getD a.L e.I.toNat []) (0 + 1 + 1 + 1 + 1 + 1) default)) (D.I (List.getD (List.getD a.L e.I.toNat []) (0 + 1 + 1 + 1 + 1 + 1 + 1) default)) (gsOf (D.b r.B) (D.i s.I) (D.b t.B) (D.b u.B) (D.i v.I) (D.b w.B) (D.l z27.L) (D.l z28.L) (D.l z29.L))).ca])))) (T.elseT (T.elseT (T.thenT (T.needT (T.elseT (T.elseT (T.needT (T.thenT (roundT C tab13 (13 : FuncId) (loopOf C.P (13 : FuncId) 8) l13_8 [D.i 1, a, b, c, d, e, f, g, h, i, j, k, l, m, n, o, p, q, r, s, t, u, v, w, x, y, z, z26, z27, z28, z29])))))))))) (T.ite ((if validB q.I (D.I (List.getD (List.getD a.L e.I.toNat []) (0 + 1 + 1 + 1 + 1 + 1) default)) (D.I (List.getD (List.getD a.L e.I.toNat []) (0 + 1 + 1 + 1 + 1 + 1 + 1) default)) = true then (0 : Int) else (2 : Int)) != (0 : Int)) (T.need (yes (OkS l.I m.I n.I o.I p.I q.I (↑(Int.toNat (x.I.toNat : Int)) : Int) (↑(Int.toNat (y.I.toNat : Int)) : Int) (↑(Int.toNat (z.I.toNat : Int)) : Int) (gsOf (D.b r.B) (D.i s.I) (D.b t.B) (D.b u.B) (D.i v.I) (D.b w.B) (D.l z27.L) (D.l z28.L) (D.l z29.L)))) (T.ite ((if validB q.I (D.I (List.getD (List.getD a.L e.I.toNat []) (0 + 1 + 1 + 1 + 1 + 1) default)) (D.I (List.getD (List.getD a.L e.I.toNat []) (0 + 1 + 1 + 1 + 1 + 1 + 1) default)) = true then if List.isEmpty (rulesF (ruleB l.I m.I n.I o.I p.I r.B u.B z27.L z28.L z29.L (D.I (List.getD (List.getD a.L e.I.toNat []) (0 + 1 + 1 + 1 + 1 + 1) default)) (D.I (List.getD (List.getD a.L e.I.toNat []) (0 + 1 + 1 + 1 + 1 + 1 + 1) default))) 0 8 []) = true then (0 : Int) else (7 : Int) else (2 : Int)) != (2 : Int)) (T.leaf (Rd.out Ex.ret [D.b false])) (T.leaf (Rd.again [D.i 1, D.l a.L, D.i b.I, D.i c.I, D.i (d.I.toNat : Int), D.i (IntKind.wrap IntKind.i64 (e.I + (1 : Int))), D.i f.I, D.i g.I, D.i h.I, D.i i.I, D.i j.I, D.i k.I, D.i l.I, D.i m.I, D.i n.I, D.i o.I, D.i p.I, D.i q.I, D.b r.B, D.i s.I, D.b t.B, D.b u.B, D.i v.I, D.b w.B, D.i (↑(Int.toNat (↑(Int.toNat (x.I.toNat : Int)) : Int)) : Int), D.i (↑(Int.toNat (↑(Int.toNat (y.I.toNat : Int)) : Int)) : Int), D.i (↑(Int.toNat (↑(Int.toNat (z.I.toNat : Int)) : Int)) : Int), D.l z26.L, D.l z27.L, D.l z28.L, D.l (startE l.I m.I n.I o.I p.I q.I (D.I (List.getD (List.getD a.L e.I.toNat []) (0 + 1 + 1 + 1 + 1 + 1) default)) (D.I (List.getD (List.getD a.L e.I.toNat []) (0 + 1 + 1 + 1 + 1 + 1 + 1) default)) (gsOf (D.b r.B) (D.i s.I) (D.b t.B) (D.b u.B) (D.i v.I) (D.b w.B) (D.l z27.L) (D.l z28.L) (D.l z29.L))).ca])))) (T.need (decide (Int.toNat (x.I.toNat : Int) ≤ z27.L.length)) (T.need (decide (Int.toNat (y.I.toNat : Int) ≤ z28.L.length)) (T.need (decide (Int.toNat (z.I.toNat : Int) ≤ z29.L.length)) (T.need (decide (d.I.toNat ≤ z26.L.length)) (T.need (yes (List.length (List.take d.I.toNat z26.L) ≤ 1000 ∧ (((0 : Int) ≤ D.I (List.getD (List.getD a.L e.I.toNat []) (0 + 1 + 1 + 1 + 1 + 1 + 1) default) ∧ D.I (List.getD (List.getD a.L e.I.toNat []) (0 + 1 + 1 + 1 + 1 + 1 + 1) default) ≤ (100000 : Int)) ∧ okPl f.I g.I h.I i.I j.I k.I) ∧ k.I = q.I ∧ (↑(List.length (List.take (Int.toNat (z.I.toNat : Int)) z29.L)) : Int) = q.I)) (T.ite (!readyB f.I g.I h.I k.I (D.I (List.getD (List.getD a.L e.I.toNat []) (0 + 1 + 1 + 1 + 1 + 1 + 1) default)) (List.take d.I.toNat z26.L) (List.take (Int.toNat (z.I.toNat : Int)) z29.L)) (T.leaf (Rd.out Ex.ret [D.b false])) (T.ite (decide (b.I ≥ (0 : Int))) (T.ite (decide (b.I < f.I)) (T.ite (decide (c.I ≥ (0 : Int))) (T.ite (decide (c.I ≤ D.I (List.getD (List.getD a.L e.I.toNat []) (0 + 1 + 1 + 1 + 1 + 1 + 1) default))) (T.need (yes (OkS l.I m.I n.I o.I p.I q.I (↑(Int.toNat (x.I.toNat : Int)) : Int) (↑(Int.toNat (y.I.toNat : Int)) : Int) (↑(Int.toNat (z.I.toNat : Int)) : Int) (gsOf (D.b r.B) (D.i s.I) (D.b t.B) (D.b u.B) (D.i v.I) (D.b w.B) (D.l z27.L) (D.l z28.L) (D.l z29.L)))) (T.ite ((if evB l.I q.I (3 : Int) (IntKind.wrap IntKind.i64 (D.I (List.getD (List.getD a.L e.I.toNat []) (0 + 1 + 1 + 1 + 1 + 1 + 1) default) - c.I)) b.I (0 : Int) = true then (0 : Int) else (2 : Int)) != (0 : Int)) (T.leaf (Rd.out Ex.ret [D.b false])) (T.need (decide (d.I.toNat ≤ z26.L.length ∧ d.I.toNat + 1 ≤ 2 ^ 62 ∧ (d.I.toNat + 1) * Try.prog.types[81].bytes ≤ 2 ^ 47)) (T.need (yes (OkS l.I m.I n.I o.I p.I q.I (↑(Int.toNat (↑(Int.toNat (x.I.toNat : Int)) : Int)) : Int) (↑(Int.toNat (↑(Int.toNat (y.I.toNat : Int)) : Int)) : Int) (↑(Int.toNat (↑(Int.toNat (z.I.toNat : Int)) : Int)) : Int) (hearE l.I q.I (3 : Int) (IntKind.wrap IntKind.i64 (D.I (List.getD (List.getD a.L e.I.toNat []) (0 + 1 + 1 + 1 + 1 + 1 + 1) default) - c.I)) b.I (0 : Int) (gsOf (D.b r.B) (D.i s.I) (D.b t.B) (D.b u.B) (D.i v.I) (D.b w.B) (D.l z27.L) (D.l z28.L) (D.l z29.L))))) (T.ite (validB q.I (D.I (List.getD (List.getD a.L e.I.toNat []) (0 + 1 + 1 + 1 + 1 + 1) default)) (D.I (List.getD (List.getD a.L e.I.toNat []) (0 + 1 + 1 + 1 + 1 + 1 + 1) default)) && !List.isEmpty (rulesF (ruleB l.I m.I n.I o.I p.I (hearE l.I q.I (3 : Int) (IntKind.wrap IntKind.i64 (D.I (List.getD (List.getD a.L e.I.toNat []) (0 + 1 + 1 + 1 + 1 + 1 + 1) default) - c.I)) b.I (0 : Int) (gsOf (D.b r.B) (D.i s.I) (D.b t.B) (D.b u.B) (D.i v.I) (D.b w.B) (D.l z27.L) (D.l z28.L) (D.l z29.L))).ov (hearE l.I q.I (3 : Int) (IntKind.wrap IntKind.i64 (D.I (List.getD (List.getD a.L e.I.toNat []) (0 + 1 + 1 + 1 + 1 + 1 + 1) default) - c.I)) b.I (0 : Int) (gsOf (D.b r.B) (D.i s.I) (D.b t.B) (D.b u.B) (D.i v.I) (D.b w.B) (D.l z27.L) (D.l z28.L) (D.l z29.L))).cv (hearE l.I q.I (3 : Int) (IntKind.wrap IntKind.i64 (D.I (List.getD (List.getD a.L e.I.toNat []) (0 + 1 + 1 + 1 + 1 + 1 + 1) default) - c.I)) b.I (0 : Int) (gsOf (D.b r.B) (D.i s.I) (D.b t.B) (D.b u.B) (D.i v.I) (D.b w.B) (D.l z27.L) (D.l z28.L) (D.l z29.L))).rd (hearE l.I q.I (3 : Int) (IntKind.wrap IntKind.i64 (D.I (List.getD (List.getD a.L e.I.toNat []) (0 + 1 + 1 + 1 + 1 + 1 + 1) default) - c.I)) b.I (0 : Int) (gsOf (D.b r.B) (D.i s.I) (D.b t.B) (D.b u.B) (D.i v.I) (D.b w.B) (D.l z27.L) (D.l z28.L) (D.l z29.L))).po (hearE l.I q.I (3 : Int) (IntKind.wrap IntKind.i64 (D.I (List.getD (List.getD a.L e.I.toNat []) (0 + 1 + 1 + 1 + 1 + 1 + 1) default) - c.I)) b.I (0 : Int) (gsOf (D.b r.B) (D.i s.I) (D.b t.B) (D.b u.B) (D.i v.I) (D.b w.B) (D.l z27.L) (D.l z28.L) (D.l z29.L))).ca (D.I (List.getD (List.getD a.L e.I.toNat []) (0 + 1 + 1 + 1 + 1 + 1) default)) (D.I (List.getD (List.getD a.L e.I.toNat []) (0 + 1 + 1 + 1 + 1 + 1 + 1) default))) 0 8 [])) (T.ite ((↑(Int.toNat (↑(List.length (rulesF (ruleB l.I m.I n.I o.I p.I (hearE l.I q.I (3 : Int) (IntKind.wrap IntKind.i64 (D.I (List.getD (List.getD a.L e.I.toNat []) (0 + 1 + 1 + 1 + 1 + 1 + 1) default) - c.I)) b.I (0 : Int) (gsOf (D.b r.B) (D.i s.I) (D.b t.B) (D.b u.B) (D.i v.I) (D.b w.B) (D.l z27.L) (D.l z28.L) (D.l z29.L))).ov (hearE l.I q.I (3 : Int) (IntKind.wrap IntKind.i64 (D.I (List.getD (List.getD a.L e.I.toNat []) (0 + 1 + 1 + 1 + 1 + 1 + 1) default) - c.I)) b.I (0 : Int) (gsOf (D.b r.B) (D.i s.I) (D.b t.B) (D.b u.B) (D.i v.I) (D.b w.B) (D.l z27.L) (D.l z28.L) (D.l z29.L))).cv (hearE l.I q.I (3 : Int) (IntKind.wrap IntKind.i64 (D.I (List.getD (List.getD a.L e.I.toNat []) (0 + 1 + 1 + 1 + 1 + 1 + 1) default) - c.I)) b.I (0 : Int) (gsOf (D.b r.B) (D.i s.I) (D.b t.B) (D.b u.B) (D.i v.I) (D.b w.B) (D.l z27.L) (D.l z28.L) (D.l z29.L))).rd (hearE l.I q.I (3 : Int) (IntKind.wrap IntKind.i64 (D.I (List.getD (List.getD a.L e.I.toNat []) (0 + 1 + 1 + 1 + 1 + 1 + 1) default) - c.I)) b.I (0 : Int) (gsOf (D.b r.B) (D.i s.I) (D.b t.B) (D.b u.B) (D.i v.I) (D.b w.B) (D.l z27.L) (D.l z28.L) (D.l z29.L))).po (hearE l.I q.I (3 : Int) (IntKind.wrap IntKind.i64 (D.I (List.getD (List.getD a.L e.I.toNat []) (0 + 1 + 1 + 1 + 1 + 1 + 1) default) - c.I)) b.I (0 : Int) (gsOf (D.b r.B) (D.i s.I) (D.b t.B) (D.b u.B) (D.i v.I) (D.b w.B) (D.l z27.L) (D.l z28.L) (D.l z29.L))).ca (D.I (List.getD (List.getD a.L e.I.toNat []) (0 + 1 + 1 + 1 + 1 + 1) default)) (D.I (List.getD (List.getD a.L e.I.toNat []) (0 + 1 + 1 + 1 + 1 + 1 + 1) default))) 0 8 [])) : Int)) : Int) != (0 : Int)) (T.leaf (Rd.out Ex.ret [D.b false])) (T.elseT (T.elseT (T.thenT (T.needT (T.needT (T.elseT (T.needT (T.elseT (T.needT (T.thenT (T.thenT (T.thenT (T.thenT (T.elseT (T.needT (T.needT (T.needT (T.needT (T.needT (T.elseT (T.elseT (T.elseT (T.needT (T.elseT (T.elseT (T.needT (T.thenT (roundT C tab13 (13 : FuncId) (loopOf C.P (13 : FuncId) 8) l13_8 [D.i 1, a, b, c, d, e, f, g, h, i, j, k, l, m, n, o, p, q, r, s, t, u, v, w, x, y, z, z26, z27, z28, z29]))))))))))))))))))))))))))))) (T.ite ((if validB q.I (D.I (List.getD (List.getD a.L e.I.toNat []) (0 + 1 + 1 + 1 + 1 + 1) default)) (D.I (List.getD (List.getD a.L e.I.toNat []) (0 + 1 + 1 + 1 + 1 + 1 + 1) default)) = true then (0 : Int) else (2 : Int)) != (0 : Int)) (T.thenT (T.elseT (T.needT (T.needT (T.elseT (T.needT (T.elseT (T.needT (T.thenT (T.thenT (T.thenT (T.thenT (T.elseT (T.needT (T.needT (T.needT (T.needT (T.needT (T.elseT (T.elseT (T.elseT (T.needT (T.elseT (T.elseT (T.needT (T.thenT (roundT C tab13 (13 : FuncId) (loopOf C.P (13 : FuncId) 8) l13_8 [D.i 1, a, b, c, d, e, f, g, h, i, j, k, l, m, n, o, p, q, r, s, t, u, v, w, x, y, z, z26, z27, z28, z29]))))))))))))))))))))))))))) (T.need (yes (OkS l.I m.I n.I o.I p.I q.I (↑(Int.toNat (↑(Int.toNat (↑(Int.toNat (x.I.toNat : Int)) : Int)) : Int)) : Int) (↑(Int.toNat (↑(Int.toNat (↑(Int.toNat (y.I.toNat : Int)) : Int)) : Int)) : Int) (↑(Int.toNat (↑(Int.toNat (↑(Int.toNat (z.I.toNat : Int)) : Int)) : Int)) : Int) (hearE l.I q.I (3 : Int) (IntKind.wrap IntKind.i64 (D.I (List.getD (List.getD a.L e.I.toNat []) (0 + 1 + 1 + 1 + 1 + 1 + 1) default) - c.I)) b.I (0 : Int) (gsOf (D.b r.B) (D.i s.I) (D.b t.B) (D.b u.B) (D.i v.I) (D.b w.B) (D.l z27.L) (D.l z28.L) (D.l z29.L))))) (T.ite ((if validB q.I (D.I (List.getD (List.getD a.L e.I.toNat []) (0 + 1 + 1 + 1 + 1 + 1) default)) (D.I (List.getD (List.getD a.L e.I.toNat []) (0 + 1 + 1 + 1 + 1 + 1 + 1) default)) = true then if List.isEmpty (rulesF (ruleB l.I m.I n.I o.I p.I (hearE l.I q.I (3 : Int) (IntKind.wrap IntKind.i64 (D.I (List.getD (List.getD a.L e.I.toNat []) (0 + 1 + 1 + 1 + 1 + 1 + 1) default) - c.I)) b.I (0 : Int) (gsOf (D.b r.B) (D.i s.I) (D.b t.B) (D.b u.B) (D.i v.I) (D.b w.B) (D.l z27.L) (D.l z28.L) (D.l z29.L))).ov (hearE l.I q.I (3 : Int) (IntKind.wrap IntKind.i64 (D.I (List.getD (List.getD a.L e.I.toNat []) (0 + 1 + 1 + 1 + 1 + 1 + 1) default) - c.I)) b.I (0 : Int) (gsOf (D.b r.B) (D.i s.I) (D.b t.B) (D.b u.B) (D.i v.I) (D.b w.B) (D.l z27.L) (D.l z28.L) (D.l z29.L))).cv (hearE l.I q.I (3 : Int) (IntKind.wrap IntKind.i64 (D.I (List.getD (List.getD a.L e.I.toNat []) (0 + 1 + 1 + 1 + 1 + 1 + 1) default) - c.I)) b.I (0 : Int) (gsOf (D.b r.B) (D.i s.I) (D.b t.B) (D.b u.B) (D.i v.I) (D.b w.B) (D.l z27.L) (D.l z28.L) (D.l z29.L))).rd (hearE l.I q.I (3 : Int) (IntKind.wrap IntKind.i64 (D.I (List.getD (List.getD a.L e.I.toNat []) (0 + 1 + 1 + 1 + 1 + 1 + 1) default) - c.I)) b.I (0 : Int) (gsOf (D.b r.B) (D.i s.I) (D.b t.B) (D.b u.B) (D.i v.I) (D.b w.B) (D.l z27.L) (D.l z28.L) (D.l z29.L))).po (hearE l.I q.I (3 : Int) (IntKind.wrap IntKind.i64 (D.I (List.getD (List.getD a.L e.I.toNat []) (0 + 1 + 1 + 1 + 1 + 1 + 1) default) - c.I)) b.I (0 : Int) (gsOf (D.b r.B) (D.i s.I) (D.b t.B) (D.b u.B) (D.i v.I) (D.b w.B) (D.l z27.L) (D.l z28.L) (D.l z29.L))).ca (D.I (List.getD (List.getD a.L e.I.toNat []) (0 + 1 + 1 + 1 + 1 + 1) default)) (D.I (List.getD (List.getD a.L e.I.toNat []) (0 + 1 + 1 + 1 + 1 + 1 + 1) default))) 0 8 []) = true then (0 : Int) else (7 : Int) else (2 : Int)) != (0 : Int)) (T.leaf (Rd.out Ex.ret [D.b false])) (T.leaf (Rd.again [D.i 1, D.l a.L, D.i b.I, D.i c.I, D.i (↑(d.I.toNat + 1) : Int), D.i (IntKind.wrap IntKind.i64 (e.I + (1 : Int))), D.i f.I, D.i g.I, D.i h.I, D.i i.I, D.i j.I, D.i k.I, D.i l.I, D.i m.I, D.i n.I, D.i o.I, D.i p.I, D.i q.I, D.b (hearE l.I q.I (3 : Int) (IntKind.wrap IntKind.i64 (D.I (List.getD (List.getD a.L e.I.toNat []) (0 + 1 + 1 + 1 + 1 + 1 + 1) default) - c.I)) b.I (0 : Int) (gsOf (D.b r.B) (D.i s.I) (D.b t.B) (D.b u.B) (D.i v.I) (D.b w.B) (D.l z27.L) (D.l z28.L) (D.l z29.L))).ov, D.i (hearE l.I q.I (3 : Int) (IntKind.wrap IntKind.i64 (D.I (List.getD (List.getD a.L e.I.toNat []) (0 + 1 + 1 + 1 + 1 + 1 + 1) default) - c.I)) b.I (0 : Int) (gsOf (D.b r.B) (D.i s.I) (D.b t.B) (D.b u.B) (D.i v.I) (D.b w.B) (D.l z27.L) (D.l z28.L) (D.l z29.L))).os, D.b (hearE l.I q.I (3 : Int) (IntKind.wrap IntKind.i64 (D.I (List.getD (List.getD a.L e.I.toNat []) (0 + 1 + 1 + 1 + 1 + 1 + 1) default) - c.I)) b.I (0 : Int) (gsOf (D.b r.B) (D.i s.I) (D.b t.B) (D.b u.B) (D.i v.I) (D.b w.B) (D.l z27.L) (D.l z28.L) (D.l z29.L))).oh, D.b (hearE l.I q.I (3 : Int) (IntKind.wrap IntKind.i64 (D.I (List.getD (List.getD a.L e.I.toNat []) (0 + 1 + 1 + 1 + 1 + 1 + 1) default) - c.I)) b.I (0 : Int) (gsOf (D.b r.B) (D.i s.I) (D.b t.B) (D.b u.B) (D.i v.I) (D.b w.B) (D.l z27.L) (D.l z28.L) (D.l z29.L))).cv, D.i (hearE l.I q.I (3 : Int) (IntKind.wrap IntKind.i64 (D.I (List.getD (List.getD a.L e.I.toNat []) (0 + 1 + 1 + 1 + 1 + 1 + 1) default) - c.I)) b.I (0 : Int) (gsOf (D.b r.B) (D.i s.I) (D.b t.B) (D.b u.B) (D.i v.I) (D.b w.B) (D.l z27.L) (D.l z28.L) (D.l z29.L))).cs, D.b (hearE l.I q.I (3 : Int) (IntKind.wrap IntKind.i64 (D.I (List.getD (List.getD a.L e.I.toNat []) (0 + 1 + 1 + 1 + 1 + 1 + 1) default) - c.I)) b.I (0 : Int) (gsOf (D.b r.B) (D.i s.I) (D.b t.B) (D.b u.B) (D.i v.I) (D.b w.B) (D.l z27.L) (D.l z28.L) (D.l z29.L))).ch, D.i (↑(Int.toNat (↑(Int.toNat (↑(Int.toNat (↑(Int.toNat (x.I.toNat : Int)) : Int)) : Int)) : Int)) : Int), D.i (↑(Int.toNat (↑(Int.toNat (↑(Int.toNat (↑(Int.toNat (y.I.toNat : Int)) : Int)) : Int)) : Int)) : Int), D.i (↑(Int.toNat (↑(Int.toNat (↑(Int.toNat (↑(Int.toNat (z.I.toNat : Int)) : Int)) : Int)) : Int)) : Int), D.l (List.take d.I.toNat z26.L ++ List.take (List.length [[D.i 3, D.i (IntKind.wrap IntKind.i64 (D.I (List.getD (List.getD a.L e.I.toNat []) (0 + 1 + 1 + 1 + 1 + 1 + 1) default) - c.I)), D.i b.I, D.i 0]]) [[D.i 3, D.i (IntKind.wrap IntKind.i64 (D.I (List.getD (List.getD a.L e.I.toNat []) (0 + 1 + 1 + 1 + 1 + 1 + 1) default) - c.I)), D.i b.I, D.i 0]]), D.l (hearE l.I q.I (3 : Int) (IntKind.wrap IntKind.i64 (D.I (List.getD (List.getD a.L e.I.toNat []) (0 + 1 + 1 + 1 + 1 + 1 + 1) default) - c.I)) b.I (0 : Int) (gsOf (D.b r.B) (D.i s.I) (D.b t.B) (D.b u.B) (D.i v.I) (D.b w.B) (D.l z27.L) (D.l z28.L) (D.l z29.L))).rd, D.l (hearE l.I q.I (3 : Int) (IntKind.wrap IntKind.i64 (D.I (List.getD (List.getD a.L e.I.toNat []) (0 + 1 + 1 + 1 + 1 + 1 + 1) default) - c.I)) b.I (0 : Int) (gsOf (D.b r.B) (D.i s.I) (D.b t.B) (D.b u.B) (D.i v.I) (D.b w.B) (D.l z27.L) (D.l z28.L) (D.l z29.L))).po, D.l (startE l.I m.I n.I o.I p.I q.I (D.I (List.getD (List.getD a.L e.I.toNat []) (0 + 1 + 1 + 1 + 1 + 1) default)) (D.I (List.getD (List.getD a.L e.I.toNat []) (0 + 1 + 1 + 1 + 1 + 1 + 1) default)) (hearE l.I q.I (3 : Int) (IntKind.wrap IntKind.i64 (D.I (List.getD (List.getD a.L e.I.toNat []) (0 + 1 + 1 + 1 + 1 + 1 + 1) default) - c.I)) b.I (0 : Int) (gsOf (D.b r.B) (D.i s.I) (D.b t.B) (D.b u.B) (D.i v.I) (D.b w.B) (D.l z27.L) (D.l z28.L) (D.l z29.L)))).ca])))))))))) (T.need (yes (OkS l.I m.I n.I o.I p.I q.I (↑(Int.toNat (x.I.toNat : Int)) : Int) (↑(Int.toNat (y.I.toNat : Int)) : Int) (↑(Int.toNat (z.I.toNat : Int)) : Int) (gsOf (D.b r.B) (D.i s.I) (D.b t.B) (D.b u.B) (D.i v.I) (D.b w.B) (D.l z27.L) (D.l z28.L) (D.l z29.L)))) (T.ite ((if validB q.I (D.I (List.getD (List.getD a.L e.I.toNat []) (0 + 1 + 1 + 1 + 1 + 1) default)) (D.I (List.getD (List.getD a.L e.I.toNat []) (0 + 1 + 1 + 1 + 1 + 1 + 1) default)) = true then if List.isEmpty (rulesF (ruleB l.I m.I n.I o.I p.I r.B u.B z27.L z28.L z29.L (D.I (List.getD (List.getD a.L e.I.toNat []) (0 + 1 + 1 + 1 + 1 + 1) default)) (D.I (List.getD (List.getD a.L e.I.toNat []) (0 + 1 + 1 + 1 + 1 + 1 + 1) default))) 0 8 []) = true then (0 : Int) else (7 : Int) else (2 : Int)) != (0 : Int)) (T.leaf (Rd.out Ex.ret [D.b false])) (T.leaf (Rd.again [D.i 1, D.l a.L, D.i b.I, D.i c.I, D.i (d.I.toNat : Int), D.i (IntKind.wrap IntKind.i64 (e.I + (1 : Int))), D.i f.I, D.i g.I, D.i h.I, D.i i.I, D.i j.I, D.i k.I, D.i l.I, D.i m.I, D.i n.I, D.i o.I, D.i p.I, D.i q.I, D.b r.B, D.i s.I, D.b t.B, D.b u.B, D.i v.I, D.b w.B, D.i (↑(Int.toNat (↑(Int.toNat (x.I.toNat : Int)) : Int)) : Int), D.i (↑(Int.toNat (↑(Int.toNat (y.I.toNat : Int)) : Int)) : Int), D.i (↑(Int.toNat (↑(Int.toNat (z.I.toNat : Int)) : Int)) : Int), D.l z26.L, D.l z27.L, D.l z28.L, D.l (startE l.I m.I n.I o.I p.I q.I (D.I (List.getD (List.getD a.L e.I.toNat []) (0 + 1 + 1 + 1 + 1 + 1) default)) (D.I (List.getD (List.getD a.L e.I.toNat []) (0 + 1 + 1 + 1 + 1 + 1 + 1) default)) (gsOf (D.b r.B) (D.i s.I) (D.b t.B) (D.b u.B) (D.i v.I) (D.b w.B) (D.l z27.L) (D.l z28.L) (D.l z29.L))).ca]))))) (T.need (yes (OkS l.I m.I n.I o.I p.I q.I (↑(Int.toNat (x.I.toNat : Int)) : Int) (↑(Int.toNat (y.I.toNat : Int)) : Int) (↑(Int.toNat (z.I.toNat : Int)) : Int) (gsOf (D.b r.B) (D.i s.I) (D.b t.B) (D.b u.B) (D.i v.I) (D.b w.B) (D.l z27.L) (D.l z28.L) (D.l z29.L)))) (T.ite ((if validB q.I (D.I (List.getD (List.getD a.L e.I.toNat []) (0 + 1 + 1 + 1 + 1 + 1) default)) (D.I (List.getD (List.getD a.L e.I.toNat []) (0 + 1 + 1 + 1 + 1 + 1 + 1) default)) = true then if List.isEmpty (rulesF (ruleB l.I m.I n.I o.I p.I r.B u.B z27.L z28.L z29.L (D.I (List.getD (List.getD a.L e.I.toNat []) (0 + 1 + 1 + 1 + 1 + 1) default)) (D.I (List.getD (List.getD a.L e.I.toNat []) (0 + 1 + 1 + 1 + 1 + 1 + 1) default))) 0 8 []) = true then (0 : Int) else (7 : Int) else (2 : Int)) != (0 : Int)) (T.leaf (Rd.out Ex.ret [D.b false])) (T.leaf (Rd.again [D.i 1, D.l a.L, D.i b.I, D.i c.I, D.i (d.I.toNat : Int), D.i (IntKind.wrap IntKind.i64 (e.I + (1 : Int))), D.i f.I, D.i g.I, D.i h.I, D.i i.I, D.i j.I, D.i k.I, D.i l.I, D.i m.I, D.i n.I, D.i o.I, D.i p.I, D.i q.I, D.b r.B, D.i s.I, D.b t.B, D.b u.B, D.i v.I, D.b w.B, D.i (↑(Int.toNat (↑(Int.toNat (x.I.toNat : Int)) : Int)) : Int), D.i (↑(Int.toNat (↑(Int.toNat (y.I.toNat : Int)) : Int)) : Int), D.i (↑(Int.toNat (↑(Int.toNat (z.I.toNat : Int)) : Int)) : Int), D.l z26.L, D.l z27.L, D.l z28.L, D.l (startE l.I m.I n.I o.I p.I q.I (D.I (List.getD (List.getD a.L e.I.toNat []) (0 + 1 + 1 + 1 + 1 + 1) default)) (D.I (List.getD (List.getD a.L e.I.toNat []) (0 + 1 + 1 + 1 + 1 + 1 + 1) default)) (gsOf (D.b r.B) (D.i s.I) (D.b t.B) (D.b u.B) (D.i v.I) (D.b w.B) (D.l z27.L) (D.l z28.L) (D.l z29.L))).ca]))))) (T.need (yes (OkS l.I m.I n.I o.I p.I q.I (↑(Int.toNat (x.I.toNat : Int)) : Int) (↑(Int.toNat (y.I.toNat : Int)) : Int) (↑(Int.toNat (z.I.toNat : Int)) : Int) (gsOf (D.b r.B) (D.i s.I) (D.b t.B) (D.b u.B) (D.i v.I) (D.b w.B) (D.l z27.L) (D.l z28.L) (D.l z29.L)))) (T.ite ((if validB q.I (D.I (List.getD (List.getD a.L e.I.toNat []) (0 + 1 + 1 + 1 + 1 + 1) default)) (D.I (List.getD (List.getD a.L e.I.toNat []) (0 + 1 + 1 + 1 + 1 + 1 + 1) default)) = true then if List.isEmpty (rulesF (ruleB l.I m.I n.I o.I p.I r.B u.B z27.L z28.L z29.L (D.I (List.getD (List.getD a.L e.I.toNat []) (0 + 1 + 1 + 1 + 1 + 1) default)) (D.I (List.getD (List.getD a.L e.I.toNat []) (0 + 1 + 1 + 1 + 1 + 1 + 1) default))) 0 8 []) = true then (0 : Int) else (7 : Int) else (2 : Int)) != (0 : Int)) (T.leaf (Rd.out Ex.ret [D.b false])) (T.leaf (Rd.again [D.i 1, D.l a.L, D.i b.I, D.i c.I, D.i (d.I.toNat : Int), D.i (IntKind.wrap IntKind.i64 (e.I + (1 : Int))), D.i f.I, D.i g.I, D.i h.I, D.i i.I, D.i j.I, D.i k.I, D.i l.I, D.i m.I, D.i n.I, D.i o.I, D.i p.I, D.i q.I, D.b r.B, D.i s.I, D.b t.B, D.b u.B, D.i v.I, D.b w.B, D.i (↑(Int.toNat (↑(Int.toNat (x.I.toNat : Int)) : Int)) : Int), D.i (↑(Int.toNat (↑(Int.toNat (y.I.toNat : Int)) : Int)) : Int), D.i (↑(Int.toNat (↑(Int.toNat (z.I.toNat : Int)) : Int)) : Int), D.l z26.L, D.l z27.L, D.l z28.L, D.l (startE l.I m.I n.I o.I p.I q.I (D.I (List.getD (List.getD a.L e.I.toNat []) (0 + 1 + 1 + 1 + 1 + 1) default)) (D.I (List.getD (List.getD a.L e.I.toNat []) (0 + 1 + 1 + 1 + 1 + 1 + 1) default)) (gsOf (D.b r.B) (D.i s.I) (D.b t.B) (D.b u.B) (D.i v.I) (D.b w.B) (D.l z27.L) (D.l z28.L) (D.l z29.L))).ca]))))) (T.need (yes (OkS l.I m.I n.I o.I p.I q.I (↑(Int.toNat (x.I.toNat : Int)) : Int) (↑(Int.toNat (y.I.toNat : Int)) : Int) (↑(Int.toNat (z.I.toNat : Int)) : Int) (gsOf (D.b r.B) (D.i s.I) (D.b t.B) (D.b u.B) (D.i v.I) (D.b w.B) (D.l z27.L) (D.l z28.L) (D.l z29.L)))) (T.ite ((if validB q.I (D.I (List.getD (List.getD a.L e.I.toNat []) (0 + 1 + 1 + 1 + 1 + 1) default)) (D.I (List.getD (List.getD a.L e.I.toNat []) (0 + 1 + 1 + 1 + 1 + 1 + 1) default)) = true then if List.isEmpty (rulesF (ruleB l.I m.I n.I o.I p.I r.B u.B z27.L z28.L z29.L (D.I (List.getD (List.getD a.L e.I.toNat []) (0 + 1 + 1 + 1 + 1 + 1) default)) (D.I (List.getD (List.getD a.L e.I.toNat []) (0 + 1 + 1 + 1 + 1 + 1 + 1) default))) 0 8 []) = true then (0 : Int) else (7 : Int) else (2 : Int)) != (0 : Int)) (T.leaf (Rd.out Ex.ret [D.b false])) (T.leaf (Rd.again [D.i 1, D.l a.L, D.i b.I, D.i c.I, D.i (d.I.toNat : Int), D.i (IntKind.wrap IntKind.i64 (e.I + (1 : Int))), D.i f.I, D.i g.I, D.i h.I, D.i i.I, D.i j.I, D.i k.I, D.i l.I, D.i m.I, D.i n.I, D.i o.I, D.i p.I, D.i q.I, D.b r.B, D.i s.I, D.b t.B, D.b u.B, D.i v.I, D.b w.B, D.i (↑(Int.toNat (↑(Int.toNat (x.I.toNat : Int)) : Int)) : Int), D.i (↑(Int.toNat (↑(Int.toNat (y.I.toNat : Int)) : Int)) : Int), D.i (↑(Int.toNat (↑(Int.toNat (z.I.toNat : Int)) : Int)) : Int), D.l z26.L, D.l z27.L, D.l z28.L, D.l (startE l.I m.I n.I o.I p.I q.I (D.I (List.getD (List.getD a.L e.I.toNat []) (0 + 1 + 1 + 1 + 1 + 1) default)) (D.I (List.getD (List.getD a.L e.I.toNat []) (0 + 1 + 1 + 1 + 1 + 1 + 1) default)) (gsOf (D.b r.B) (D.i s.I) (D.b t.B) (D.b u.B) (D.i v.I) (D.b w.B) (D.l z27.L) (D.l z28.L) (D.l z29.L))).ca]))))))))))))))))) (T.leaf (Rd.out (Ex.exit 0) []))) := by kernel_rfl
end Go.Proofs.Ytgmefblkmidglaa
namespace Go.Proofs.Ytgmefblkmidglaa
open Go.Lite
set_option linter.unusedVariables false
set_option maxRecDepth 100000
theorem t13 (a b c d e f g h i : D) : (fnT C tab13 13 s13 [a, b, c, d, e, f, g, h, i]).run =
  T.run (T.ite (decide ((g.L.length : Int) > (60 : Int))) (T.leaf [D.b true]) (T.ite (planG a.I b.I c.I d.I e.I f.I) (T.need (yes ((↑0 : Int) = (0 : Int) ∧ g.L.length ≤ 60 ∧ ((0 : Int) ≤ (0 : Int) ∧ (0 : Int) ≤ (g.L.length : Int)) ∧ (a.I = a.I ∧ b.I = b.I ∧ c.I = c.I ∧ d.I = d.I ∧ e.I = e.I ∧ f.I = f.I) ∧ SafeW a.I b.I c.I d.I e.I f.I (a.I.toNat : Int) (a.I.toNat : Int) (f.I.toNat : Int) (gsOf (D.b false) (D.i 0) (D.b false) (D.b false) (D.i 0) (D.b false) (D.l (List.replicate a.I.toNat lo0)) (D.l (List.replicate a.I.toNat lo0)) (D.l (List.replicate f.I.toNat ca1))) [])) (T.leaf [D.b true])) (T.ite (!planG a.I b.I c.I d.I e.I f.I) (T.leaf [D.b true]) (T.elseT (T.thenT (T.thenT (T.elseT (T.elseT (fnT C tab13 (13 : FuncId) s13 [a, b, c, d, e, f, g, h, i]))))))))) := by kernel_rfl
end Go.Proofs.Ytgmefblkmidglaa
