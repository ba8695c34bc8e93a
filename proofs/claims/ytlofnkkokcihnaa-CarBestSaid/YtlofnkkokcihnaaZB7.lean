/-
 What the claim car_best rests on,part 7.
-/
import Derived.Test.YtlofnkkokcihnaaZB6
namespace Go.Proofs.Ytlofnkkokcihnaa
open Go.Lite
set_option linter.unusedVariables false
set_option maxRecDepth 100000
theorem t21_14_0 (e s n set b x cs1 m i cs ls rw bs bc bw fd sets s2 pw:D):(roundTK C tab21 21 (loopOf C.P 21 14) 6 l21_14 [.i 0,e,s,n,set,b,x,cs1,m,i,cs,ls,rw,bs,bc,bw,fd,sets,s2,pw]).run =
 T.run (T.ite (decide (i.I < m.I)) (T.need (decide ((0:Int) ≤ i.I ∧ i.I < (cs1.L.length:Int))) (T.need (decide (s.I.toNat ≤ sets.L.length)) (T.need (yes (compoundOk (D.L (List.getD (List.getD cs1.L i.I.toNat []) 0 default)) (D.L (List.getD (List.getD cs1.L i.I.toNat []) (0 + 1) default)) (D.L (List.getD (List.getD cs1.L i.I.toNat []) (0 + 1 + 1) default)) (D.I (List.getD (List.getD cs1.L i.I.toNat []) (0 + 1 + 1 + 1) default)) = true ∧ ls.L.length ≤ 8 ∧ List.length (List.take s.I.toNat sets.L) = ls.L.length ∧ allFrom (loopAt (↑(List.length (D.L (List.getD (List.getD cs1.L i.I.toNat []) 0 default))):Int) ls.L) 0 ls.L.length = true)) (T.ite (usedAll [D.l (D.L (List.getD (List.getD cs1.L i.I.toNat []) 0 default)),D.l (D.L (List.getD (List.getD cs1.L i.I.toNat []) (0 + 1) default)),D.l (D.L (List.getD (List.getD cs1.L i.I.toNat []) (0 + 1 + 1) default)),D.i (D.I (List.getD (List.getD cs1.L i.I.toNat []) (0 + 1 + 1 + 1) default))] ls.L (List.take s.I.toNat sets.L) set.I).snd (T.need true (T.ite false (T.leaf (Rd.again [D.i 0,D.i e.I,D.i (s.I.toNat:Int),D.i n.I,D.i set.I,D.i b.I,D.i x.I,D.l cs1.L,D.i m.I,D.i (IntKind.i64.wrap (i.I + (1:Int))),D.l cs.L,D.l ls.L,D.i rw.I,D.l bs.L,D.l bc.L,D.i bw.I,D.b fd.B,D.l sets.L,D.i (s2.I.toNat:Int),D.i pw.I])) (T.need true (T.leaf (Rd.again [D.i 2,D.i e.I,D.i (s.I.toNat:Int),D.i n.I,D.i set.I,D.i 1,D.i b.I,D.i x.I,D.l cs1.L,D.i m.I,D.i (IntKind.i64.wrap (i.I + (1:Int))),D.l cs.L,D.l ls.L,D.i rw.I,D.l bs.L,D.l bc.L,D.i bw.I,D.b fd.B,D.l sets.L,D.i (s2.I.toNat:Int),D.i pw.I,D.l [[D.i i.I,D.i (usedAll [D.l (D.L (List.getD (List.getD cs1.L i.I.toNat []) 0 default)),D.l (D.L (List.getD (List.getD cs1.L i.I.toNat []) (0 + 1) default)),D.l (D.L (List.getD (List.getD cs1.L i.I.toNat []) (0 + 1 + 1) default)),D.i (D.I (List.getD (List.getD cs1.L i.I.toNat []) (0 + 1 + 1 + 1) default))] ls.L (List.take s.I.toNat sets.L) set.I).fst]]]))))) (T.leaf (Rd.again [D.i 0,D.i e.I,D.i (s.I.toNat:Int),D.i n.I,D.i set.I,D.i b.I,D.i x.I,D.l cs1.L,D.i m.I,D.i (IntKind.i64.wrap (i.I + (1:Int))),D.l cs.L,D.l ls.L,D.i rw.I,D.l bs.L,D.l bc.L,D.i bw.I,D.b fd.B,D.l sets.L,D.i (s2.I.toNat:Int),D.i pw.I])))))) (T.leaf (Rd.out (Ex.exit 4) [D.i 0,D.i e.I,D.i (s.I.toNat:Int),D.i n.I,D.i b.I,D.i x.I,D.l cs.L,D.l ls.L,D.i rw.I,D.l bs.L,D.l bc.L,D.i bw.I,D.b fd.B,D.l sets.L,D.i (s2.I.toNat:Int),D.i pw.I]))):=by kernel_rfl
theorem t21_14_1 (e s n set b x cs1 m i cs ls rw bs bc bw fd sets s2 c pw comps:D):(roundTK C tab21 21 (loopOf C.P 21 14) 6 l21_14 [.i 1,e,s,n,set,b,x,cs1,m,i,cs,ls,rw,bs,bc,bw,fd,sets,s2,c,pw,comps]).run =
 T.run (T.ite (decide (i.I < m.I)) (T.need (decide ((0:Int) ≤ i.I ∧ i.I < (cs1.L.length:Int))) (T.need (decide (s.I.toNat ≤ sets.L.length)) (T.need (yes (compoundOk (D.L (List.getD (List.getD cs1.L i.I.toNat []) 0 default)) (D.L (List.getD (List.getD cs1.L i.I.toNat []) (0 + 1) default)) (D.L (List.getD (List.getD cs1.L i.I.toNat []) (0 + 1 + 1) default)) (D.I (List.getD (List.getD cs1.L i.I.toNat []) (0 + 1 + 1 + 1) default)) = true ∧ ls.L.length ≤ 8 ∧ List.length (List.take s.I.toNat sets.L) = ls.L.length ∧ allFrom (loopAt (↑(List.length (D.L (List.getD (List.getD cs1.L i.I.toNat []) 0 default))):Int) ls.L) 0 ls.L.length = true)) (T.ite (usedAll [D.l (D.L (List.getD (List.getD cs1.L i.I.toNat []) 0 default)),D.l (D.L (List.getD (List.getD cs1.L i.I.toNat []) (0 + 1) default)),D.l (D.L (List.getD (List.getD cs1.L i.I.toNat []) (0 + 1 + 1) default)),D.i (D.I (List.getD (List.getD cs1.L i.I.toNat []) (0 + 1 + 1 + 1) default))] ls.L (List.take s.I.toNat sets.L) set.I).snd (T.need true (T.ite false (T.leaf (Rd.again [D.i 1,D.i e.I,D.i (s.I.toNat:Int),D.i n.I,D.i set.I,D.i b.I,D.i x.I,D.l cs1.L,D.i m.I,D.i (IntKind.i64.wrap (i.I + (1:Int))),D.l cs.L,D.l ls.L,D.i rw.I,D.l bs.L,D.l bc.L,D.i bw.I,D.b fd.B,D.l sets.L,D.i (s2.I.toNat:Int),D.i (c.I.toNat:Int),D.i pw.I,D.l comps.L])) (T.need true (T.leaf (Rd.again [D.i 3,D.i e.I,D.i (s.I.toNat:Int),D.i n.I,D.i set.I,D.i 1,D.i b.I,D.i x.I,D.l cs1.L,D.i m.I,D.i (IntKind.i64.wrap (i.I + (1:Int))),D.l cs.L,D.l ls.L,D.i rw.I,D.l bs.L,D.l bc.L,D.i bw.I,D.b fd.B,D.l sets.L,D.i (s2.I.toNat:Int),D.i (c.I.toNat:Int),D.i pw.I,D.l [[D.i i.I,D.i (usedAll [D.l (D.L (List.getD (List.getD cs1.L i.I.toNat []) 0 default)),D.l (D.L (List.getD (List.getD cs1.L i.I.toNat []) (0 + 1) default)),D.l (D.L (List.getD (List.getD cs1.L i.I.toNat []) (0 + 1 + 1) default)),D.i (D.I (List.getD (List.getD cs1.L i.I.toNat []) (0 + 1 + 1 + 1) default))] ls.L (List.take s.I.toNat sets.L) set.I).fst]],D.l comps.L]))))) (T.leaf (Rd.again [D.i 1,D.i e.I,D.i (s.I.toNat:Int),D.i n.I,D.i set.I,D.i b.I,D.i x.I,D.l cs1.L,D.i m.I,D.i (IntKind.i64.wrap (i.I + (1:Int))),D.l cs.L,D.l ls.L,D.i rw.I,D.l bs.L,D.l bc.L,D.i bw.I,D.b fd.B,D.l sets.L,D.i (s2.I.toNat:Int),D.i (c.I.toNat:Int),D.i pw.I,D.l comps.L])))))) (T.leaf (Rd.out (Ex.exit 4) [D.i 1,D.i e.I,D.i (s.I.toNat:Int),D.i n.I,D.i b.I,D.i x.I,D.l cs.L,D.l ls.L,D.i rw.I,D.l bs.L,D.l bc.L,D.i bw.I,D.b fd.B,D.l sets.L,D.i (s2.I.toNat:Int),D.i (c.I.toNat:Int),D.i pw.I,D.l comps.L]))):=by kernel_rfl
theorem t21_14_2 (e s n set o b x cs1 m i cs ls rw bs bc bw fd sets s2 pw opts:D):(roundTK C tab21 21 (loopOf C.P 21 14) 6 l21_14 [.i 2,e,s,n,set,o,b,x,cs1,m,i,cs,ls,rw,bs,bc,bw,fd,sets,s2,pw,opts]).run =
 T.run (T.ite (decide (i.I < m.I)) (T.need (decide ((0:Int) ≤ i.I ∧ i.I < (cs1.L.length:Int))) (T.need (decide (s.I.toNat ≤ sets.L.length)) (T.need (yes (compoundOk (D.L (List.getD (List.getD cs1.L i.I.toNat []) 0 default)) (D.L (List.getD (List.getD cs1.L i.I.toNat []) (0 + 1) default)) (D.L (List.getD (List.getD cs1.L i.I.toNat []) (0 + 1 + 1) default)) (D.I (List.getD (List.getD cs1.L i.I.toNat []) (0 + 1 + 1 + 1) default)) = true ∧ ls.L.length ≤ 8 ∧ List.length (List.take s.I.toNat sets.L) = ls.L.length ∧ allFrom (loopAt (↑(List.length (D.L (List.getD (List.getD cs1.L i.I.toNat []) 0 default))):Int) ls.L) 0 ls.L.length = true)) (T.ite (usedAll [D.l (D.L (List.getD (List.getD cs1.L i.I.toNat []) 0 default)),D.l (D.L (List.getD (List.getD cs1.L i.I.toNat []) (0 + 1) default)),D.l (D.L (List.getD (List.getD cs1.L i.I.toNat []) (0 + 1 + 1) default)),D.i (D.I (List.getD (List.getD cs1.L i.I.toNat []) (0 + 1 + 1 + 1) default))] ls.L (List.take s.I.toNat sets.L) set.I).snd (T.need true (T.ite false (T.leaf (Rd.again [D.i 2,D.i e.I,D.i (s.I.toNat:Int),D.i n.I,D.i set.I,D.i (o.I.toNat:Int),D.i b.I,D.i x.I,D.l cs1.L,D.i m.I,D.i (IntKind.i64.wrap (i.I + (1:Int))),D.l cs.L,D.l ls.L,D.i rw.I,D.l bs.L,D.l bc.L,D.i bw.I,D.b fd.B,D.l sets.L,D.i (s2.I.toNat:Int),D.i pw.I,D.l opts.L])) (T.need (decide (o.I.toNat ≤ opts.L.length ∧ o.I.toNat + 1 ≤ 2 ^ 62 ∧ (o.I.toNat + 1) * Try.prog.types[102].bytes ≤ 2 ^ 47)) (T.leaf (Rd.again [D.i 2,D.i e.I,D.i (s.I.toNat:Int),D.i n.I,D.i set.I,D.i (↑(o.I.toNat + 1):Int),D.i b.I,D.i x.I,D.l cs1.L,D.i m.I,D.i (IntKind.i64.wrap (i.I + (1:Int))),D.l cs.L,D.l ls.L,D.i rw.I,D.l bs.L,D.l bc.L,D.i bw.I,D.b fd.B,D.l sets.L,D.i (s2.I.toNat:Int),D.i pw.I,D.l (List.take o.I.toNat opts.L ++ List.take (List.length [[D.i i.I,D.i (usedAll [D.l (D.L (List.getD (List.getD cs1.L i.I.toNat []) 0 default)),D.l (D.L (List.getD (List.getD cs1.L i.I.toNat []) (0 + 1) default)),D.l (D.L (List.getD (List.getD cs1.L i.I.toNat []) (0 + 1 + 1) default)),D.i (D.I (List.getD (List.getD cs1.L i.I.toNat []) (0 + 1 + 1 + 1) default))] ls.L (List.take s.I.toNat sets.L) set.I).fst]]) [[D.i i.I,D.i (usedAll [D.l (D.L (List.getD (List.getD cs1.L i.I.toNat []) 0 default)),D.l (D.L (List.getD (List.getD cs1.L i.I.toNat []) (0 + 1) default)),D.l (D.L (List.getD (List.getD cs1.L i.I.toNat []) (0 + 1 + 1) default)),D.i (D.I (List.getD (List.getD cs1.L i.I.toNat []) (0 + 1 + 1 + 1) default))] ls.L (List.take s.I.toNat sets.L) set.I).fst]])]))))) (T.leaf (Rd.again [D.i 2,D.i e.I,D.i (s.I.toNat:Int),D.i n.I,D.i set.I,D.i (o.I.toNat:Int),D.i b.I,D.i x.I,D.l cs1.L,D.i m.I,D.i (IntKind.i64.wrap (i.I + (1:Int))),D.l cs.L,D.l ls.L,D.i rw.I,D.l bs.L,D.l bc.L,D.i bw.I,D.b fd.B,D.l sets.L,D.i (s2.I.toNat:Int),D.i pw.I,D.l opts.L])))))) (T.leaf (Rd.out (Ex.exit 4) [D.i 2,D.i e.I,D.i (s.I.toNat:Int),D.i n.I,D.i (o.I.toNat:Int),D.i b.I,D.i x.I,D.l cs.L,D.l ls.L,D.i rw.I,D.l bs.L,D.l bc.L,D.i bw.I,D.b fd.B,D.l sets.L,D.i (s2.I.toNat:Int),D.i pw.I,D.l opts.L]))):=by kernel_rfl
theorem t21_14_3 (e s n set o b x cs1 m i cs ls rw bs bc bw fd sets s2 c pw opts comps:D):(roundTK C tab21 21 (loopOf C.P 21 14) 6 l21_14 [.i 3,e,s,n,set,o,b,x,cs1,m,i,cs,ls,rw,bs,bc,bw,fd,sets,s2,c,pw,opts,comps]).run =
 T.run (T.ite (decide (i.I < m.I)) (T.need (decide ((0:Int) ≤ i.I ∧ i.I < (cs1.L.length:Int))) (T.need (decide (s.I.toNat ≤ sets.L.length)) (T.need (yes (compoundOk (D.L (List.getD (List.getD cs1.L i.I.toNat []) 0 default)) (D.L (List.getD (List.getD cs1.L i.I.toNat []) (0 + 1) default)) (D.L (List.getD (List.getD cs1.L i.I.toNat []) (0 + 1 + 1) default)) (D.I (List.getD (List.getD cs1.L i.I.toNat []) (0 + 1 + 1 + 1) default)) = true ∧ ls.L.length ≤ 8 ∧ List.length (List.take s.I.toNat sets.L) = ls.L.length ∧ allFrom (loopAt (↑(List.length (D.L (List.getD (List.getD cs1.L i.I.toNat []) 0 default))):Int) ls.L) 0 ls.L.length = true)) (T.ite (usedAll [D.l (D.L (List.getD (List.getD cs1.L i.I.toNat []) 0 default)),D.l (D.L (List.getD (List.getD cs1.L i.I.toNat []) (0 + 1) default)),D.l (D.L (List.getD (List.getD cs1.L i.I.toNat []) (0 + 1 + 1) default)),D.i (D.I (List.getD (List.getD cs1.L i.I.toNat []) (0 + 1 + 1 + 1) default))] ls.L (List.take s.I.toNat sets.L) set.I).snd (T.need true (T.ite false (T.leaf (Rd.again [D.i 3,D.i e.I,D.i (s.I.toNat:Int),D.i n.I,D.i set.I,D.i (o.I.toNat:Int),D.i b.I,D.i x.I,D.l cs1.L,D.i m.I,D.i (IntKind.i64.wrap (i.I + (1:Int))),D.l cs.L,D.l ls.L,D.i rw.I,D.l bs.L,D.l bc.L,D.i bw.I,D.b fd.B,D.l sets.L,D.i (s2.I.toNat:Int),D.i (c.I.toNat:Int),D.i pw.I,D.l opts.L,D.l comps.L])) (T.need (decide (o.I.toNat ≤ opts.L.length ∧ o.I.toNat + 1 ≤ 2 ^ 62 ∧ (o.I.toNat + 1) * Try.prog.types[102].bytes ≤ 2 ^ 47)) (T.leaf (Rd.again [D.i 3,D.i e.I,D.i (s.I.toNat:Int),D.i n.I,D.i set.I,D.i (↑(o.I.toNat + 1):Int),D.i b.I,D.i x.I,D.l cs1.L,D.i m.I,D.i (IntKind.i64.wrap (i.I + (1:Int))),D.l cs.L,D.l ls.L,D.i rw.I,D.l bs.L,D.l bc.L,D.i bw.I,D.b fd.B,D.l sets.L,D.i (s2.I.toNat:Int),D.i (c.I.toNat:Int),D.i pw.I,D.l (List.take o.I.toNat opts.L ++ List.take (List.length [[D.i i.I,D.i (usedAll [D.l (D.L (List.getD (List.getD cs1.L i.I.toNat []) 0 default)),D.l (D.L (List.getD (List.getD cs1.L i.I.toNat []) (0 + 1) default)),D.l (D.L (List.getD (List.getD cs1.L i.I.toNat []) (0 + 1 + 1) default)),D.i (D.I (List.getD (List.getD cs1.L i.I.toNat []) (0 + 1 + 1 + 1) default))] ls.L (List.take s.I.toNat sets.L) set.I).fst]]) [[D.i i.I,D.i (usedAll [D.l (D.L (List.getD (List.getD cs1.L i.I.toNat []) 0 default)),D.l (D.L (List.getD (List.getD cs1.L i.I.toNat []) (0 + 1) default)),D.l (D.L (List.getD (List.getD cs1.L i.I.toNat []) (0 + 1 + 1) default)),D.i (D.I (List.getD (List.getD cs1.L i.I.toNat []) (0 + 1 + 1 + 1) default))] ls.L (List.take s.I.toNat sets.L) set.I).fst]]),D.l comps.L]))))) (T.leaf (Rd.again [D.i 3,D.i e.I,D.i (s.I.toNat:Int),D.i n.I,D.i set.I,D.i (o.I.toNat:Int),D.i b.I,D.i x.I,D.l cs1.L,D.i m.I,D.i (IntKind.i64.wrap (i.I + (1:Int))),D.l cs.L,D.l ls.L,D.i rw.I,D.l bs.L,D.l bc.L,D.i bw.I,D.b fd.B,D.l sets.L,D.i (s2.I.toNat:Int),D.i (c.I.toNat:Int),D.i pw.I,D.l opts.L,D.l comps.L])))))) (T.leaf (Rd.out (Ex.exit 4) [D.i 3,D.i e.I,D.i (s.I.toNat:Int),D.i n.I,D.i (o.I.toNat:Int),D.i b.I,D.i x.I,D.l cs.L,D.l ls.L,D.i rw.I,D.l bs.L,D.l bc.L,D.i bw.I,D.b fd.B,D.l sets.L,D.i (s2.I.toNat:Int),D.i (c.I.toNat:Int),D.i pw.I,D.l opts.L,D.l comps.L]))):=by kernel_rfl
theorem t21_10_0 (e s n b x cs ls rw bs bc bw fd sets s2 pw:D):(roundTK C tab21 21 (loopOf C.P 21 10) 6 l21_10 [.i 0,e,s,n,b,x,cs,ls,rw,bs,bc,bw,fd,sets,s2,pw]).run =
 T.run (T.ite (decide (x.I < b.I)) (T.need (yes ((↑0:Int) = (0:Int) ∧ planP cs.L ls.L sets.L (s.I.toNat:Int) (s2.I.toNat:Int) n.I ∧ setP b.I x.I n.I pw.I x.I (0:Int) (cs.L.length:Int) cs.L cs.L [] ∧ x.I = (0:Int))) (T.ite (List.isEmpty (optI cs.L ls.L sets.L x.I (0:Int))) (T.ite true (T.leaf (Rd.out (Ex.exit 1) [D.i e.I,D.l cs.L,D.l ls.L,D.i rw.I,D.l bs.L,D.l bc.L,D.i bw.I,D.b fd.B,D.l sets.L])) (T.need (yes (0 < List.length ([]:List (List D)) ∧ List.length ([]:List (List D)) ≤ 1000)) (T.need true (T.ite false (T.ite fd.B (T.ite (decide (IntKind.i64.wrap (pw.I + ix (bestL []) 1) > bw.I)) (T.leaf (Rd.out (Ex.exit 1) [D.i e.I,D.l cs.L,D.l ls.L,D.i rw.I,D.l bs.L,D.l bc.L,D.i bw.I,D.b fd.B,D.l sets.L])) (T.leaf (Rd.again [D.i 0,D.i e.I,D.i (↑(Int.toNat (s.I.toNat:Int)):Int),D.i n.I,D.i b.I,D.i (IntKind.i64.wrap (x.I + (1:Int))),D.l cs.L,D.l ls.L,D.i rw.I,D.l bs.L,D.l bc.L,D.i bw.I,D.b fd.B,D.l sets.L,D.i (↑(Int.toNat (s2.I.toNat:Int)):Int),D.i (IntKind.i64.wrap (pw.I + ix (bestL []) 1))]))) (T.leaf (Rd.again [D.i 0,D.i e.I,D.i (↑(Int.toNat (s.I.toNat:Int)):Int),D.i n.I,D.i b.I,D.i (IntKind.i64.wrap (x.I + (1:Int))),D.l cs.L,D.l ls.L,D.i rw.I,D.l bs.L,D.l bc.L,D.i bw.I,D.b fd.B,D.l sets.L,D.i (↑(Int.toNat (s2.I.toNat:Int)):Int),D.i (IntKind.i64.wrap (pw.I + ix (bestL []) 1))]))) (T.need true (T.ite fd.B (T.ite (decide (IntKind.i64.wrap (pw.I + ix (bestL []) 1) > bw.I)) (T.leaf (Rd.out (Ex.exit 1) [D.i e.I,D.l cs.L,D.l ls.L,D.i rw.I,D.l bs.L,D.l bc.L,D.i bw.I,D.b fd.B,D.l sets.L])) (T.leaf (Rd.again [D.i 1,D.i e.I,D.i (↑(Int.toNat (s.I.toNat:Int)):Int),D.i n.I,D.i b.I,D.i (IntKind.i64.wrap (x.I + (1:Int))),D.l cs.L,D.l ls.L,D.i rw.I,D.l bs.L,D.l bc.L,D.i bw.I,D.b fd.B,D.l sets.L,D.i (↑(Int.toNat (s2.I.toNat:Int)):Int),D.i 1,D.i (IntKind.i64.wrap (pw.I + ix (bestL []) 1)),D.l [[D.i 0]]]))) (T.leaf (Rd.again [D.i 1,D.i e.I,D.i (↑(Int.toNat (s.I.toNat:Int)):Int),D.i n.I,D.i b.I,D.i (IntKind.i64.wrap (x.I + (1:Int))),D.l cs.L,D.l ls.L,D.i rw.I,D.l bs.L,D.l bc.L,D.i bw.I,D.b fd.B,D.l sets.L,D.i (↑(Int.toNat (s2.I.toNat:Int)):Int),D.i 1,D.i (IntKind.i64.wrap (pw.I + ix (bestL []) 1)),D.l [[D.i 0]]])))))))) (T.ite ((↑(Int.toNat (↑(List.length (optI cs.L ls.L sets.L x.I (0:Int))):Int)):Int) == (0:Int)) (T.leaf (Rd.out (Ex.exit 1) [D.i e.I,D.l cs.L,D.l ls.L,D.i rw.I,D.l bs.L,D.l bc.L,D.i bw.I,D.b fd.B,D.l sets.L])) (T.need (decide (Int.toNat (↑(List.length (optI cs.L ls.L sets.L x.I (0:Int))):Int) ≤ List.length (optI cs.L ls.L sets.L x.I (0:Int)))) (T.need (yes (0 < List.length (List.take (Int.toNat (↑(List.length (optI cs.L ls.L sets.L x.I (0:Int))):Int)) (optI cs.L ls.L sets.L x.I (0:Int))) ∧ List.length (List.take (Int.toNat (↑(List.length (optI cs.L ls.L sets.L x.I (0:Int))):Int)) (optI cs.L ls.L sets.L x.I (0:Int))) ≤ 1000)) (T.need true (T.ite false (T.ite fd.B (T.ite (decide (IntKind.i64.wrap (pw.I + ix (bestL (List.take (Int.toNat (↑(List.length (optI cs.L ls.L sets.L x.I (0:Int))):Int)) (optI cs.L ls.L sets.L x.I (0:Int)))) 1) > bw.I)) (T.leaf (Rd.out (Ex.exit 1) [D.i e.I,D.l cs.L,D.l ls.L,D.i rw.I,D.l bs.L,D.l bc.L,D.i bw.I,D.b fd.B,D.l sets.L])) (T.leaf (Rd.again [D.i 0,D.i e.I,D.i (↑(Int.toNat (s.I.toNat:Int)):Int),D.i n.I,D.i b.I,D.i (IntKind.i64.wrap (x.I + (1:Int))),D.l cs.L,D.l ls.L,D.i rw.I,D.l bs.L,D.l bc.L,D.i bw.I,D.b fd.B,D.l sets.L,D.i (↑(Int.toNat (s2.I.toNat:Int)):Int),D.i (IntKind.i64.wrap (pw.I + ix (bestL (List.take (Int.toNat (↑(List.length (optI cs.L ls.L sets.L x.I (0:Int))):Int)) (optI cs.L ls.L sets.L x.I (0:Int)))) 1))]))) (T.leaf (Rd.again [D.i 0,D.i e.I,D.i (↑(Int.toNat (s.I.toNat:Int)):Int),D.i n.I,D.i b.I,D.i (IntKind.i64.wrap (x.I + (1:Int))),D.l cs.L,D.l ls.L,D.i rw.I,D.l bs.L,D.l bc.L,D.i bw.I,D.b fd.B,D.l sets.L,D.i (↑(Int.toNat (s2.I.toNat:Int)):Int),D.i (IntKind.i64.wrap (pw.I + ix (bestL (List.take (Int.toNat (↑(List.length (optI cs.L ls.L sets.L x.I (0:Int))):Int)) (optI cs.L ls.L sets.L x.I (0:Int)))) 1))]))) (T.need true (T.ite fd.B (T.ite (decide (IntKind.i64.wrap (pw.I + ix (bestL (List.take (Int.toNat (↑(List.length (optI cs.L ls.L sets.L x.I (0:Int))):Int)) (optI cs.L ls.L sets.L x.I (0:Int)))) 1) > bw.I)) (T.leaf (Rd.out (Ex.exit 1) [D.i e.I,D.l cs.L,D.l ls.L,D.i rw.I,D.l bs.L,D.l bc.L,D.i bw.I,D.b fd.B,D.l sets.L])) (T.leaf (Rd.again [D.i 1,D.i e.I,D.i (↑(Int.toNat (s.I.toNat:Int)):Int),D.i n.I,D.i b.I,D.i (IntKind.i64.wrap (x.I + (1:Int))),D.l cs.L,D.l ls.L,D.i rw.I,D.l bs.L,D.l bc.L,D.i bw.I,D.b fd.B,D.l sets.L,D.i (↑(Int.toNat (s2.I.toNat:Int)):Int),D.i 1,D.i (IntKind.i64.wrap (pw.I + ix (bestL (List.take (Int.toNat (↑(List.length (optI cs.L ls.L sets.L x.I (0:Int))):Int)) (optI cs.L ls.L sets.L x.I (0:Int)))) 1)),D.l [[D.i (ix (bestL (List.take (Int.toNat (↑(List.length (optI cs.L ls.L sets.L x.I (0:Int))):Int)) (optI cs.L ls.L sets.L x.I (0:Int)))) 0)]]]))) (T.leaf (Rd.again [D.i 1,D.i e.I,D.i (↑(Int.toNat (s.I.toNat:Int)):Int),D.i n.I,D.i b.I,D.i (IntKind.i64.wrap (x.I + (1:Int))),D.l cs.L,D.l ls.L,D.i rw.I,D.l bs.L,D.l bc.L,D.i bw.I,D.b fd.B,D.l sets.L,D.i (↑(Int.toNat (s2.I.toNat:Int)):Int),D.i 1,D.i (IntKind.i64.wrap (pw.I + ix (bestL (List.take (Int.toNat (↑(List.length (optI cs.L ls.L sets.L x.I (0:Int))):Int)) (optI cs.L ls.L sets.L x.I (0:Int)))) 1)),D.l [[D.i (ix (bestL (List.take (Int.toNat (↑(List.length (optI cs.L ls.L sets.L x.I (0:Int))):Int)) (optI cs.L ls.L sets.L x.I (0:Int)))) 0)]]]))))))))))) (T.leaf (Rd.out (Ex.exit 2) [D.i 0,D.i e.I,D.i n.I,D.l cs.L,D.l ls.L,D.i rw.I,D.l bs.L,D.l bc.L,D.i bw.I,D.b fd.B,D.l sets.L,D.i (s2.I.toNat:Int),D.i pw.I]))):=by kernel_rfl
theorem t21_10n (e n b x cs ls rw bs bc bw fd pw:D):(roundTK C tab21n 21 (loopOf C.P 21 10) 5 l21_10n [e,n,b,x,cs,ls,rw,bs,bc,bw,fd,pw]).run =
 T.run (T.ite (decide (x.I < b.I)) T.fail (T.leaf (Rd.out (Ex.exit 2) [D.i e.I,D.i n.I,D.l cs.L,D.l ls.L,D.i rw.I,D.l bs.L,D.l bc.L,D.i bw.I,D.b fd.B,D.i pw.I]))):=by kernel_rfl
theorem t21_r (e cs ls rw bs bc bw fd s n row:D):(roundRT C tab21 21 (rangeOf C.P 21 8) 0 6 [3,4,6,7,8,9,29] h21_8 y84 [e,cs,ls,rw,bs,bc,bw,fd] [.i 1,s,n,row]).run =
 T.run (T.need (yes ((↑0:Int) = (0:Int) ∧ planP cs.L ls.L row.L (s.I.toNat:Int) (s.I.toNat:Int) n.I ∧ loopP n.I (0:Int) n.I (0:Int) [] ∧ (0:Int) = (0:Int))) (T.ite (Option.isSome (setsF cs.L ls.L row.L fd.B bw.I (Int.toNat (0:Int)) (Int.toNat (n.I - (0:Int))) [] (0:Int))) (T.ite (List.isEmpty (resF (setsF cs.L ls.L row.L fd.B bw.I (Int.toNat (0:Int)) (Int.toNat (n.I - (0:Int))) [] (0:Int))).fst) (T.ite (!fd.B) (T.need (decide (Int.toNat (s.I.toNat:Int) ≤ row.L.length)) (T.leaf (Rd.again [D.i e.I,D.l cs.L,D.l ls.L,D.i rw.I,D.l (List.take (Int.toNat (s.I.toNat:Int)) row.L),D.l [],D.i (resF (setsF cs.L ls.L row.L fd.B bw.I (Int.toNat (0:Int)) (Int.toNat (n.I - (0:Int))) [] (0:Int))).snd,D.b true],[]))) (T.ite (decide ((resF (setsF cs.L ls.L row.L fd.B bw.I (Int.toNat (0:Int)) (Int.toNat (n.I - (0:Int))) [] (0:Int))).snd < bw.I)) (T.need (decide (Int.toNat (s.I.toNat:Int) ≤ row.L.length)) (T.leaf (Rd.again [D.i e.I,D.l cs.L,D.l ls.L,D.i rw.I,D.l (List.take (Int.toNat (s.I.toNat:Int)) row.L),D.l [],D.i (resF (setsF cs.L ls.L row.L fd.B bw.I (Int.toNat (0:Int)) (Int.toNat (n.I - (0:Int))) [] (0:Int))).snd,D.b true],[]))) (T.ite (decide (n.I < (bc.L.length:Int))) (T.need (decide (Int.toNat (s.I.toNat:Int) ≤ row.L.length)) (T.leaf (Rd.again [D.i e.I,D.l cs.L,D.l ls.L,D.i rw.I,D.l (List.take (Int.toNat (s.I.toNat:Int)) row.L),D.l [],D.i (resF (setsF cs.L ls.L row.L fd.B bw.I (Int.toNat (0:Int)) (Int.toNat (n.I - (0:Int))) [] (0:Int))).snd,D.b true],[]))) (T.leaf (Rd.again [D.i e.I,D.l cs.L,D.l ls.L,D.i rw.I,D.l bs.L,D.l bc.L,D.i bw.I,D.b fd.B],[]))))) (T.ite (!fd.B) (T.need (decide (Int.toNat (s.I.toNat:Int) ≤ row.L.length)) (T.need (decide (Int.toNat (↑(List.length (resF (setsF cs.L ls.L row.L fd.B bw.I (Int.toNat (0:Int)) (Int.toNat (n.I - (0:Int))) [] (0:Int))).fst):Int) ≤ List.length (resF (setsF cs.L ls.L row.L fd.B bw.I (Int.toNat (0:Int)) (Int.toNat (n.I - (0:Int))) [] (0:Int))).fst)) (T.leaf (Rd.again [D.i e.I,D.l cs.L,D.l ls.L,D.i rw.I,D.l (List.take (Int.toNat (s.I.toNat:Int)) row.L),D.l (List.take (Int.toNat (↑(List.length (resF (setsF cs.L ls.L row.L fd.B bw.I (Int.toNat (0:Int)) (Int.toNat (n.I - (0:Int))) [] (0:Int))).fst):Int)) (resF (setsF cs.L ls.L row.L fd.B bw.I (Int.toNat (0:Int)) (Int.toNat (n.I - (0:Int))) [] (0:Int))).fst),D.i (resF (setsF cs.L ls.L row.L fd.B bw.I (Int.toNat (0:Int)) (Int.toNat (n.I - (0:Int))) [] (0:Int))).snd,D.b true],[])))) (T.ite (decide ((resF (setsF cs.L ls.L row.L fd.B bw.I (Int.toNat (0:Int)) (Int.toNat (n.I - (0:Int))) [] (0:Int))).snd < bw.I)) (T.need (decide (Int.toNat (s.I.toNat:Int) ≤ row.L.length)) (T.need (decide (Int.toNat (↑(List.length (resF (setsF cs.L ls.L row.L fd.B bw.I (Int.toNat (0:Int)) (Int.toNat (n.I - (0:Int))) [] (0:Int))).fst):Int) ≤ List.length (resF (setsF cs.L ls.L row.L fd.B bw.I (Int.toNat (0:Int)) (Int.toNat (n.I - (0:Int))) [] (0:Int))).fst)) (T.leaf (Rd.again [D.i e.I,D.l cs.L,D.l ls.L,D.i rw.I,D.l (List.take (Int.toNat (s.I.toNat:Int)) row.L),D.l (List.take (Int.toNat (↑(List.length (resF (setsF cs.L ls.L row.L fd.B bw.I (Int.toNat (0:Int)) (Int.toNat (n.I - (0:Int))) [] (0:Int))).fst):Int)) (resF (setsF cs.L ls.L row.L fd.B bw.I (Int.toNat (0:Int)) (Int.toNat (n.I - (0:Int))) [] (0:Int))).fst),D.i (resF (setsF cs.L ls.L row.L fd.B bw.I (Int.toNat (0:Int)) (Int.toNat (n.I - (0:Int))) [] (0:Int))).snd,D.b true],[])))) (T.ite (decide (n.I < (bc.L.length:Int))) (T.need (decide (Int.toNat (s.I.toNat:Int) ≤ row.L.length)) (T.need (decide (Int.toNat (↑(List.length (resF (setsF cs.L ls.L row.L fd.B bw.I (Int.toNat (0:Int)) (Int.toNat (n.I - (0:Int))) [] (0:Int))).fst):Int) ≤ List.length (resF (setsF cs.L ls.L row.L fd.B bw.I (Int.toNat (0:Int)) (Int.toNat (n.I - (0:Int))) [] (0:Int))).fst)) (T.leaf (Rd.again [D.i e.I,D.l cs.L,D.l ls.L,D.i rw.I,D.l (List.take (Int.toNat (s.I.toNat:Int)) row.L),D.l (List.take (Int.toNat (↑(List.length (resF (setsF cs.L ls.L row.L fd.B bw.I (Int.toNat (0:Int)) (Int.toNat (n.I - (0:Int))) [] (0:Int))).fst):Int)) (resF (setsF cs.L ls.L row.L fd.B bw.I (Int.toNat (0:Int)) (Int.toNat (n.I - (0:Int))) [] (0:Int))).fst),D.i (resF (setsF cs.L ls.L row.L fd.B bw.I (Int.toNat (0:Int)) (Int.toNat (n.I - (0:Int))) [] (0:Int))).snd,D.b true],[])))) (T.leaf (Rd.again [D.i e.I,D.l cs.L,D.l ls.L,D.i rw.I,D.l bs.L,D.l bc.L,D.i bw.I,D.b fd.B],[])))))) (T.leaf (Rd.again [D.i e.I,D.l cs.L,D.l ls.L,D.i rw.I,D.l bs.L,D.l bc.L,D.i bw.I,D.b fd.B],[])))):=by kernel_rfl
theorem t21_rn (e cs ls rw bs bc bw fd n:D):(roundRT C tab21n 21 (rangeOf C.P 21 8) 0 5 [3,4,6,7,8,9,29] h21_8 y84 [e,cs,ls,rw,bs,bc,bw,fd] [.i 0,n]).run =
 T.run (T.need (yes (n.I ≤ (0:Int))) (T.ite (!fd.B) (T.leaf (Rd.again [D.i e.I,D.l cs.L,D.l ls.L,D.i rw.I,D.l [],D.l [],D.i 0,D.b true],[])) (T.ite (decide ((0:Int) < bw.I)) (T.leaf (Rd.again [D.i e.I,D.l cs.L,D.l ls.L,D.i rw.I,D.l [],D.l [],D.i 0,D.b true],[])) (T.ite (decide (n.I < (bc.L.length:Int))) (T.leaf (Rd.again [D.i e.I,D.l cs.L,D.l ls.L,D.i rw.I,D.l [],D.l [],D.i 0,D.b true],[])) (T.leaf (Rd.again [D.i e.I,D.l cs.L,D.l ls.L,D.i rw.I,D.l bs.L,D.l bc.L,D.i bw.I,D.b fd.B],[])))))):=by kernel_rfl
theorem t21 (cs ls n:D):(fnTW C tab21 21 s21 [cs,ls,n]).run =
 T.run (T.need (yes (smallCs cs.L)) (T.ite (!taskOk cs.L ls.L n.I) (T.leaf [D.l [],D.l [],D.i 0,D.i 2]) (T.need (yes (((0:Int) ≤ (ls.L.length:Int) ∧ (ls.L.length:Int) ≤ (8:Int)) ∧ (1:Int) ≤ n.I ∧ n.I ≤ (8:Int))) (T.need (yes (TaskP cs.L ls.L ∧ (∀ (y:List D),y ∈ useF n.I (Int.toNat (ls.L.length:Int)) [] (0:Int) → okYd ls.L y) ∧ List.length ([]:List (List D)) ≤ 8 ∧ List.length ([]:List (List D)) ≤ 8)) (T.ite (!(foldT cs.L ls.L (useF n.I (Int.toNat (ls.L.length:Int)) [] (0:Int)) (plOf (D.l []) (D.l []) (D.i 0) (D.b false))).fd) (T.leaf [D.l [],D.l [],D.i 0,D.i 5]) (T.leaf [D.l (foldT cs.L ls.L (useF n.I (Int.toNat (ls.L.length:Int)) [] (0:Int)) (plOf (D.l []) (D.l []) (D.i 0) (D.b false))).sets,D.l (foldT cs.L ls.L (useF n.I (Int.toNat (ls.L.length:Int)) [] (0:Int)) (plOf (D.l []) (D.l []) (D.i 0) (D.b false))).cp,D.i (foldT cs.L ls.L (useF n.I (Int.toNat (ls.L.length:Int)) [] (0:Int)) (plOf (D.l []) (D.l []) (D.i 0) (D.b false))).w,D.i 0])))))):=by kernel_rfl
theorem roundTK_head {C:Cfg} {tab:Tab} {f:FuncId} {b:Code} {k:Nat} {s:LSig} {j:D} {n:Int} {r:List D} (h:j.I = n) (hs:2 ≤ s.head.length):roundTK C tab f b k s (j :: r) = roundTK C tab f b k s (.i n :: r):=by
 obtain ⟨live,head,exits⟩:=s
 match head,hs with
 | a :: b :: c,_=>simp only [roundTK,roundTG,headL,headA,List.headD_cons,List.tail_cons,I_i,h]
set_option maxRecDepth 100000
theorem b102:Try.prog.types[102].bytes = 16:=by kernel_rfl
theorem opt_step {cs ls sets:List (List D)} {set:Int} {k:Nat} (h:k < cs.length):optI cs ls sets set (k:Int) =
    if (usedAll (cs.getD k []) ls sets set).2 then [.i k,.i (usedAll (cs.getD k []) ls sets set).1] :: optI cs ls sets set ((k + 1:Nat):Int) else optI cs ls sets set ((k + 1:Nat):Int):=by
 unfold optI
 rw [Int.toNat_natCast,Int.toNat_natCast,show cs.length - k = (cs.length - (k + 1)) + 1 by omega]
 rfl
theorem opt_end {cs ls sets:List (List D)} {set:Int} {k:Nat} (h:cs.length ≤ k):optI cs ls sets set (k:Int) = []:=by
 unfold optI
 rw [Int.toNat_natCast,show cs.length - k = 0 by omega]
 rfl
def μ14 (ds:List D):Nat:=match ds with
 | [_,_,_,_,_,_,_,_,m,i,_,_,_,_,_,_,_,_,_,_]=>(m.I - i.I).toNat
 | [y,_,_,_,_,_,_,_,a,b,c,_,_,_,_,_,_,_,_,_,_,_]=>if y.I = 1 then (a.I - b.I).toNat else (b.I - c.I).toNat
 | [_,_,_,_,_,_,_,_,_,m,i,_,_,_,_,_,_,_,_,_,_,_,_,_]=>(m.I - i.I).toNat
 | _=>0
set_option maxHeartbeats 2000000 in
theorem head1 (n:Nat) (_hA:AllOK C n sp21) {rr:Ex × List D} (y e s n' set b x cs' m i cs ls rv bs bc bw fd sets s2 c pw comps:D) (hz:y.I = 1) (h:(G21_14_1 y e s n' set b x cs' m i cs ls rv bs bc bw fd sets s2 c pw comps).run = some rr) :
    μ14 [y,e,s,n',set,b,x,cs',m,i,cs,ls,rv,bs,bc,bw,fd,sets,s2,c,pw,comps] < C.fuel ∧ RdOK G21_14 μ14 [y,e,s,n',set,b,x,cs',m,i,cs,ls,rv,bs,bc,bw,fd,sets,s2,c,pw,comps] rr (roundTK C tab21 21 (loopOf C.P 21 14) 6 l21_14 [y,e,s,n',set,b,x,cs',m,i,cs,ls,rv,bs,bc,bw,fd,sets,s2,c,pw,comps]).run:=by
 have hmu:μ14 [y,e,s,n',set,b,x,cs',m,i,cs,ls,rv,bs,bc,bw,fd,sets,s2,c,pw,comps] = (m.I - i.I).toNat:=if_pos hz
 unfold G21_14_1 at h
 obtain ⟨hp,h⟩:=need_some h
 rw [yes_iff] at hp
 obtain ⟨hy,hP,hS,hc,hc0⟩:=hp
 obtain ⟨hT,⟨hs,hs2,hl⟩,hn0,hn8⟩:=hP
 obtain ⟨hlp,hset,hxn,hcs,hm,i0,i1⟩:=hS
 obtain ⟨⟨kn0,kn8⟩,kl8,kc⟩:=task_of hT
 refine ⟨by rw [fuelC]; rw [hmu]; omega,?_⟩
 rw [roundTK_head (j:=y) (n:=1) hy (by decide)]
 refine rd_runY (t21_14_1 e s n' set b x cs' m i cs ls rv bs bc bw fd sets s2 c pw comps) ?_
 obtain ⟨k,hk⟩:∃ k:Nat,i.I = k:=⟨i.I.toNat,by omega⟩
 have es:s.I.toNat = sets.L.length:=by omega
 have es2:s2.I.toNat = sets.L.length:=by omega
 have et:∀ l:List (List D),l.take l.length = l:=fun l=>List.take_length
 have ec:c.I.toNat = comps.L.length:=by omega
 clear es es2
 simp only [hk,hs,hs2,et,hcs,Int.toNat_natCast,lx_def,ix_def,hc] at h i0 i1 ⊢
 refine rd_if (fun hlt=>?_) fun hge=>?_
 ·have hkl:k < cs.L.length:=by omega
  obtain ⟨q1,q2,q3⟩:=kc k hkl
  have hu:∀ st:Int,usedAll [D.l (lx (cs.L.getD k []) 0),D.l (lx (cs.L.getD k []) (0 + 1)),D.l (lx (cs.L.getD k []) (0 + 1 + 1)),D.i (ix (cs.L.getD k []) (0 + 1 + 1 + 1))] ls.L sets.L st = usedAll (cs.L.getD k []) ls.L sets.L st:=fun st=>used_eta _ _ _ _ _ _ _ _
  have hP':∀ a b:Int,a = sets.L.length → b = sets.L.length → planP cs.L ls.L sets.L a b n'.I:=fun a b ha hb=>⟨hT,⟨ha,hb,hl⟩,hn0,hn8⟩
  have hS':setP b.I x.I n'.I pw.I set.I ((k + 1:Nat):Int) m.I cs.L cs.L comps.L:=⟨hlp,hset,hxn,rfl,hm,by omega,by omega⟩
  rw [opt_step hkl] at h
  simp only [hu]
  rw [wrap_succ (by omega)]
  refine rd_dec (by omega) (rd_dec (by omega) (rd_yes ⟨q1,kl8,hl,q2⟩ (rd_ite (fun c1=>?_) fun c1=>?_)))
  ·have fin:(G21_14 [.i 3,.i e.I,.i (sets.L.length:Int),.i n'.I,.i set.I,.i 1,.i b.I,.i x.I,.l cs.L,.i m.I,.i ((k + 1:Nat):Int),.l cs.L,.l ls.L,.i rv.I,.l bs.L,.l bc.L,.i bw.I,.b fd.B,.l sets.L,.i (sets.L.length:Int),.i (comps.L.length:Int),.i pw.I,.l [[.i (k:Int),.i (usedAll (cs.L.getD k []) ls.L sets.L set.I).1]],.l comps.L]).run = some rr:=by
    rw [if_pos c1] at h
    refine (need_yes ⟨rfl,hP' _ _ rfl rfl,hS',rfl,by simp only [I_i]; omega,by simp only [I_i,L_l,List.length_cons,List.length_nil]; try omega,by simp only [I_i]; omega,by simp only [I_i]; omega⟩).trans ?_
    simp only [I_i,L_l,B_b]
    exact h
   refine rd_need rfl (rd_false rfl (rd_need rfl (rd_again fin ?_)))
   rw [hmu]
   show ((m.I - ((k + 1:Nat):Int)).toNat) < ((m.I - i.I).toNat)
   omega
  ·have fin:(G21_14 [.i 1,.i e.I,.i (sets.L.length:Int),.i n'.I,.i set.I,.i b.I,.i x.I,.l cs.L,.i m.I,.i ((k + 1:Nat):Int),.l cs.L,.l ls.L,.i rv.I,.l bs.L,.l bc.L,.i bw.I,.b fd.B,.l sets.L,.i (sets.L.length:Int),.i (comps.L.length:Int),.i pw.I,.l comps.L]).run = some rr:=by
    rw [if_neg (by rw [c1]; decide)] at h
    refine (show (G21_14 [.i 1,.i e.I,.i (sets.L.length:Int),.i n'.I,.i set.I,.i b.I,.i x.I,.l cs.L,.i m.I,.i ((k + 1:Nat):Int),.l cs.L,.l ls.L,.i rv.I,.l bs.L,.l bc.L,.i bw.I,.b fd.B,.l sets.L,.i (sets.L.length:Int),.i (comps.L.length:Int),.i pw.I,.l comps.L]).run = (G21_14_1 (.i 1) (.i e.I) (.i (sets.L.length:Int)) (.i n'.I) (.i set.I) (.i b.I) (.i x.I) (.l cs.L) (.i m.I) (.i ((k + 1:Nat):Int)) (.l cs.L) (.l ls.L) (.i rv.I) (.l bs.L) (.l bc.L) (.i bw.I) (.b fd.B) (.l sets.L) (.i (sets.L.length:Int)) (.i (comps.L.length:Int)) (.i pw.I) (.l comps.L)).run from rfl).trans ?_
    refine (need_yes ⟨rfl,hP' _ _ rfl rfl,hS',rfl,by simp only [I_i]; omega⟩).trans ?_
    simp only [I_i,L_l,B_b]
    exact h
   refine rd_again fin ?_
   rw [hmu]
   show ((m.I - ((k + 1:Nat):Int)).toNat) < ((m.I - i.I).toNat)
   omega
 ·rw [opt_end (by omega)] at h
  exact rd_out h
set_option maxHeartbeats 2000000 in
theorem head2 (n:Nat) (_hA:AllOK C n sp21) {rr:Ex × List D} (y e s n' set o b x cs' m i cs ls rv bs bc bw fd sets s2 pw opts:D) (hz:¬ y.I = 1) (h:(G21_14_2 y e s n' set o b x cs' m i cs ls rv bs bc bw fd sets s2 pw opts).run = some rr) :
    μ14 [y,e,s,n',set,o,b,x,cs',m,i,cs,ls,rv,bs,bc,bw,fd,sets,s2,pw,opts] < C.fuel ∧ RdOK G21_14 μ14 [y,e,s,n',set,o,b,x,cs',m,i,cs,ls,rv,bs,bc,bw,fd,sets,s2,pw,opts] rr (roundTK C tab21 21 (loopOf C.P 21 14) 6 l21_14 [y,e,s,n',set,o,b,x,cs',m,i,cs,ls,rv,bs,bc,bw,fd,sets,s2,pw,opts]).run:=by
 have hmu:μ14 [y,e,s,n',set,o,b,x,cs',m,i,cs,ls,rv,bs,bc,bw,fd,sets,s2,pw,opts] = (m.I - i.I).toNat:=if_neg hz
 unfold G21_14_2 at h
 obtain ⟨hp,h⟩:=need_some h
 rw [yes_iff] at hp
 obtain ⟨hy,hP,hS,hx0,ho,ho0,hoi⟩:=hp
 obtain ⟨hT,⟨hs,hs2,hl⟩,hn0,hn8⟩:=hP
 obtain ⟨hlp,hset,hxn,hcs,hm,i0,i1⟩:=hS
 obtain ⟨⟨kn0,kn8⟩,kl8,kc⟩:=task_of hT
 refine ⟨by rw [fuelC]; rw [hmu]; omega,?_⟩
 rw [roundTK_head (j:=y) (n:=2) hy (by decide)]
 refine rd_runY (t21_14_2 e s n' set o b x cs' m i cs ls rv bs bc bw fd sets s2 pw opts) ?_
 obtain ⟨k,hk⟩:∃ k:Nat,i.I = k:=⟨i.I.toNat,by omega⟩
 have es:s.I.toNat = sets.L.length:=by omega
 have es2:s2.I.toNat = sets.L.length:=by omega
 have et:∀ l:List (List D),l.take l.length = l:=fun l=>List.take_length
 have eo:o.I.toNat = opts.L.length:=by omega
 clear es es2
 simp only [hk,hs,hs2,et,hcs,Int.toNat_natCast,lx_def,ix_def,eo,b102] at h i0 i1 hoi ⊢
 refine rd_if (fun hlt=>?_) fun hge=>?_
 ·have hkl:k < cs.L.length:=by omega
  obtain ⟨q1,q2,q3⟩:=kc k hkl
  have hu:∀ st:Int,usedAll [D.l (lx (cs.L.getD k []) 0),D.l (lx (cs.L.getD k []) (0 + 1)),D.l (lx (cs.L.getD k []) (0 + 1 + 1)),D.i (ix (cs.L.getD k []) (0 + 1 + 1 + 1))] ls.L sets.L st = usedAll (cs.L.getD k []) ls.L sets.L st:=fun st=>used_eta _ _ _ _ _ _ _ _
  have hP':∀ a b:Int,a = sets.L.length → b = sets.L.length → planP cs.L ls.L sets.L a b n'.I:=fun a b ha hb=>⟨hT,⟨ha,hb,hl⟩,hn0,hn8⟩
  have hS':setP b.I x.I n'.I pw.I set.I ((k + 1:Nat):Int) m.I cs.L cs.L []:=⟨hlp,hset,hxn,rfl,hm,by omega,by omega⟩
  rw [opt_step hkl] at h
  simp only [hu]
  rw [wrap_succ (by omega)]
  refine rd_dec (by omega) (rd_dec (by omega) (rd_yes ⟨q1,kl8,hl,q2⟩ (rd_ite (fun c1=>?_) fun c1=>?_)))
  ·have fin:(G21_14 [.i 2,.i e.I,.i (sets.L.length:Int),.i n'.I,.i set.I,.i ((opts.L.length + 1:Nat):Int),.i b.I,.i x.I,.l cs.L,.i m.I,.i ((k + 1:Nat):Int),.l cs.L,.l ls.L,.i rv.I,.l bs.L,.l bc.L,.i bw.I,.b fd.B,.l sets.L,.i (sets.L.length:Int),.i pw.I,.l (opts.L ++ [[.i (k:Int),.i (usedAll (cs.L.getD k []) ls.L sets.L set.I).1]])]).run = some rr:=by
    rw [if_pos c1] at h
    refine (show (G21_14 [.i 2,.i e.I,.i (sets.L.length:Int),.i n'.I,.i set.I,.i ((opts.L.length + 1:Nat):Int),.i b.I,.i x.I,.l cs.L,.i m.I,.i ((k + 1:Nat):Int),.l cs.L,.l ls.L,.i rv.I,.l bs.L,.l bc.L,.i bw.I,.b fd.B,.l sets.L,.i (sets.L.length:Int),.i pw.I,.l (opts.L ++ [[.i (k:Int),.i (usedAll (cs.L.getD k []) ls.L sets.L set.I).1]])]).run = (G21_14_2 (.i 2) (.i e.I) (.i (sets.L.length:Int)) (.i n'.I) (.i set.I) (.i ((opts.L.length + 1:Nat):Int)) (.i b.I) (.i x.I) (.l cs.L) (.i m.I) (.i ((k + 1:Nat):Int)) (.l cs.L) (.l ls.L) (.i rv.I) (.l bs.L) (.l bc.L) (.i bw.I) (.b fd.B) (.l sets.L) (.i (sets.L.length:Int)) (.i pw.I) (.l (opts.L ++ [[.i (k:Int),.i (usedAll (cs.L.getD k []) ls.L sets.L set.I).1]]))).run from rfl).trans ?_
    refine (need_yes ⟨rfl,hP' _ _ rfl rfl,hS',hx0,by simp only [I_i,L_l,List.length_append,List.length_cons,List.length_nil]; try omega,by simp only [I_i]; omega,by simp only [I_i]; omega⟩).trans ?_
    simp only [I_i,L_l,B_b,List.append_assoc]
    exact h
   refine rd_need rfl (rd_false rfl (rd_dec (by omega) (rd_again fin ?_)))
   rw [hmu]
   show ((m.I - ((k + 1:Nat):Int)).toNat) < ((m.I - i.I).toNat)
   omega
  ·have fin:(G21_14 [.i 2,.i e.I,.i (sets.L.length:Int),.i n'.I,.i set.I,.i (opts.L.length:Int),.i b.I,.i x.I,.l cs.L,.i m.I,.i ((k + 1:Nat):Int),.l cs.L,.l ls.L,.i rv.I,.l bs.L,.l bc.L,.i bw.I,.b fd.B,.l sets.L,.i (sets.L.length:Int),.i pw.I,.l opts.L]).run = some rr:=by
    rw [if_neg (by rw [c1]; decide)] at h
    refine (show (G21_14 [.i 2,.i e.I,.i (sets.L.length:Int),.i n'.I,.i set.I,.i (opts.L.length:Int),.i b.I,.i x.I,.l cs.L,.i m.I,.i ((k + 1:Nat):Int),.l cs.L,.l ls.L,.i rv.I,.l bs.L,.l bc.L,.i bw.I,.b fd.B,.l sets.L,.i (sets.L.length:Int),.i pw.I,.l opts.L]).run = (G21_14_2 (.i 2) (.i e.I) (.i (sets.L.length:Int)) (.i n'.I) (.i set.I) (.i (opts.L.length:Int)) (.i b.I) (.i x.I) (.l cs.L) (.i m.I) (.i ((k + 1:Nat):Int)) (.l cs.L) (.l ls.L) (.i rv.I) (.l bs.L) (.l bc.L) (.i bw.I) (.b fd.B) (.l sets.L) (.i (sets.L.length:Int)) (.i pw.I) (.l opts.L)).run from rfl).trans ?_
    refine (need_yes ⟨rfl,hP' _ _ rfl rfl,hS',hx0,rfl,by simp only [I_i]; omega,by simp only [I_i]; omega⟩).trans ?_
    simp only [I_i,L_l,B_b]
    exact h
   refine rd_again fin ?_
   rw [hmu]
   show ((m.I - ((k + 1:Nat):Int)).toNat) < ((m.I - i.I).toNat)
   omega
 ·rw [opt_end (by omega),List.append_nil] at h
  exact rd_out h
set_option maxHeartbeats 2000000 in
theorem ok21_14 (n:Nat) (hA:AllOK C n sp21):LoopSimK C n 6 21 (loopOf C.P 21 14) (mkLK 6 l21_14 G21_14):=by
 refine loop_ofR hC (sp:=sp21) (lp:=lp21) (sw:=sw21) (rg:=rg21) hA trivial 6 [] [] (by kernel_rfl) rfl (by kernel_rfl) rfl (fun k hk=>by cases hk) (fun k hk=>by cases hk) (by kernel_rfl) μ14 fun ds rr h=>?_
 unfold G21_14 at h
 split at h
 ·rename_i y e s n' set b x cs' m i cs ls rv bs bc bw fd sets s2 pw
  unfold G21_14_0 at h
  obtain ⟨hp,h⟩:=need_some h
  rw [yes_iff] at hp
  obtain ⟨hy,hP,hS,hx0⟩:=hp
  obtain ⟨hT,⟨hs,hs2,hl⟩,hn0,hn8⟩:=hP
  obtain ⟨hlp,hset,hxn,hcs,hm,i0,i1⟩:=hS
  obtain ⟨⟨kn0,kn8⟩,kl8,kc⟩:=task_of hT
  refine ⟨by rw [fuelC]; show ((m.I - i.I).toNat) < _; omega,?_⟩
  rw [roundTK_head (j:=y) (n:=0) hy (by decide)]
  refine rd_runY (t21_14_0 e s n' set b x cs' m i cs ls rv bs bc bw fd sets s2 pw) ?_
  obtain ⟨k,hk⟩:∃ k:Nat,i.I = k:=⟨i.I.toNat,by omega⟩
  have es:s.I.toNat = sets.L.length:=by omega
  have es2:s2.I.toNat = sets.L.length:=by omega
  have et:∀ l:List (List D),l.take l.length = l:=fun l=>List.take_length
  clear es es2
  simp only [hk,hs,hs2,et,hcs,Int.toNat_natCast,lx_def,ix_def] at h i0 i1 ⊢
  refine rd_if (fun hlt=>?_) fun hge=>?_
  ·have hkl:k < cs.L.length:=by omega
   obtain ⟨q1,q2,q3⟩:=kc k hkl
   have hu:∀ st:Int,usedAll [D.l (lx (cs.L.getD k []) 0),D.l (lx (cs.L.getD k []) (0 + 1)),D.l (lx (cs.L.getD k []) (0 + 1 + 1)),D.i (ix (cs.L.getD k []) (0 + 1 + 1 + 1))] ls.L sets.L st = usedAll (cs.L.getD k []) ls.L sets.L st:=fun st=>used_eta _ _ _ _ _ _ _ _
   have hP':∀ a b:Int,a = sets.L.length → b = sets.L.length → planP cs.L ls.L sets.L a b n'.I:=fun a b ha hb=>⟨hT,⟨ha,hb,hl⟩,hn0,hn8⟩
   have hS':setP b.I x.I n'.I pw.I set.I ((k + 1:Nat):Int) m.I cs.L cs.L []:=⟨hlp,hset,hxn,rfl,hm,by omega,by omega⟩
   rw [opt_step hkl] at h
   simp only [hu]
   rw [wrap_succ (by omega)]
   refine rd_dec (by omega) (rd_dec (by omega) (rd_yes ⟨q1,kl8,hl,q2⟩ (rd_ite (fun c1=>?_) fun c1=>?_)))
   ·have fin:(G21_14 [.i 2,.i e.I,.i (sets.L.length:Int),.i n'.I,.i set.I,.i 1,.i b.I,.i x.I,.l cs.L,.i m.I,.i ((k + 1:Nat):Int),.l cs.L,.l ls.L,.i rv.I,.l bs.L,.l bc.L,.i bw.I,.b fd.B,.l sets.L,.i (sets.L.length:Int),.i pw.I,.l [[.i (k:Int),.i (usedAll (cs.L.getD k []) ls.L sets.L set.I).1]]]).run = some rr:=by
     rw [if_pos c1] at h
     refine (show (G21_14 [.i 2,.i e.I,.i (sets.L.length:Int),.i n'.I,.i set.I,.i 1,.i b.I,.i x.I,.l cs.L,.i m.I,.i ((k + 1:Nat):Int),.l cs.L,.l ls.L,.i rv.I,.l bs.L,.l bc.L,.i bw.I,.b fd.B,.l sets.L,.i (sets.L.length:Int),.i pw.I,.l [[.i (k:Int),.i (usedAll (cs.L.getD k []) ls.L sets.L set.I).1]]]).run = (G21_14_2 (.i 2) (.i e.I) (.i (sets.L.length:Int)) (.i n'.I) (.i set.I) (.i 1) (.i b.I) (.i x.I) (.l cs.L) (.i m.I) (.i ((k + 1:Nat):Int)) (.l cs.L) (.l ls.L) (.i rv.I) (.l bs.L) (.l bc.L) (.i bw.I) (.b fd.B) (.l sets.L) (.i (sets.L.length:Int)) (.i pw.I) (.l [[.i (k:Int),.i (usedAll (cs.L.getD k []) ls.L sets.L set.I).1]])).run from rfl).trans ?_
     refine (need_yes ⟨rfl,hP' _ _ rfl rfl,hS',hx0,by simp only [I_i,L_l,List.length_cons,List.length_nil]; try omega,by simp only [I_i]; omega,by simp only [I_i]; omega⟩).trans ?_
     simp only [I_i,L_l,B_b]
     exact h
    refine rd_need rfl (rd_false rfl (rd_need rfl (rd_again fin ?_)))
    show ((m.I - ((k + 1:Nat):Int)).toNat) < ((m.I - i.I).toNat)
    omega
   ·have fin:(G21_14 [.i 0,.i e.I,.i (sets.L.length:Int),.i n'.I,.i set.I,.i b.I,.i x.I,.l cs.L,.i m.I,.i ((k + 1:Nat):Int),.l cs.L,.l ls.L,.i rv.I,.l bs.L,.l bc.L,.i bw.I,.b fd.B,.l sets.L,.i (sets.L.length:Int),.i pw.I]).run = some rr:=by
     rw [if_neg (by rw [c1]; decide)] at h
     refine (need_yes ⟨rfl,hP' _ _ rfl rfl,hS',hx0⟩).trans ?_
     simp only [I_i,L_l,B_b]
     exact h
    refine rd_again fin ?_
    show ((m.I - ((k + 1:Nat):Int)).toNat) < ((m.I - i.I).toNat)
    omega
  ·rw [opt_end (by omega)] at h
   exact rd_out h
 ·rename_i y x1 x2 x3 x4 x5 x6 x7 x8 x9 x10 x11 x12 x13 x14 x15 x16 x17 x18 x19 x20 x21
  cases hz:(y.I == 1)
  ·rw [hz] at h
   exact head2 n hA y x1 x2 x3 x4 x5 x6 x7 x8 x9 x10 x11 x12 x13 x14 x15 x16 x17 x18 x19 x20 x21 (by simpa using hz) h
  ·rw [hz] at h
   exact head1 n hA y x1 x2 x3 x4 x5 x6 x7 x8 x9 x10 x11 x12 x13 x14 x15 x16 x17 x18 x19 x20 x21 (by simpa using hz) h
 ·rename_i y e s n' set o b x cs' m i cs ls rv bs bc bw fd sets s2 c pw opts comps
  unfold G21_14_3 at h
  obtain ⟨hp,h⟩:=need_some h
  rw [yes_iff] at hp
  obtain ⟨hy,hP,hS,hc,hc0,ho,ho0,hoi⟩:=hp
  obtain ⟨hT,⟨hs,hs2,hl⟩,hn0,hn8⟩:=hP
  obtain ⟨hlp,hset,hxn,hcs,hm,i0,i1⟩:=hS
  obtain ⟨⟨kn0,kn8⟩,kl8,kc⟩:=task_of hT
  refine ⟨by rw [fuelC]; show ((m.I - i.I).toNat) < _; omega,?_⟩
  rw [roundTK_head (j:=y) (n:=3) hy (by decide)]
  refine rd_runY (t21_14_3 e s n' set o b x cs' m i cs ls rv bs bc bw fd sets s2 c pw opts comps) ?_
  obtain ⟨k,hk⟩:∃ k:Nat,i.I = k:=⟨i.I.toNat,by omega⟩
  have es:s.I.toNat = sets.L.length:=by omega
  have es2:s2.I.toNat = sets.L.length:=by omega
  have et:∀ l:List (List D),l.take l.length = l:=fun l=>List.take_length
  have ec:c.I.toNat = comps.L.length:=by omega
  have eo:o.I.toNat = opts.L.length:=by omega
  clear es es2
  simp only [hk,hs,hs2,et,hcs,Int.toNat_natCast,lx_def,ix_def,hc,eo,b102] at h i0 i1 hoi ⊢
  refine rd_if (fun hlt=>?_) fun hge=>?_
  ·have hkl:k < cs.L.length:=by omega
   obtain ⟨q1,q2,q3⟩:=kc k hkl
   have hu:∀ st:Int,usedAll [D.l (lx (cs.L.getD k []) 0),D.l (lx (cs.L.getD k []) (0 + 1)),D.l (lx (cs.L.getD k []) (0 + 1 + 1)),D.i (ix (cs.L.getD k []) (0 + 1 + 1 + 1))] ls.L sets.L st = usedAll (cs.L.getD k []) ls.L sets.L st:=fun st=>used_eta _ _ _ _ _ _ _ _
   have hP':∀ a b:Int,a = sets.L.length → b = sets.L.length → planP cs.L ls.L sets.L a b n'.I:=fun a b ha hb=>⟨hT,⟨ha,hb,hl⟩,hn0,hn8⟩
   have hS':setP b.I x.I n'.I pw.I set.I ((k + 1:Nat):Int) m.I cs.L cs.L comps.L:=⟨hlp,hset,hxn,rfl,hm,by omega,by omega⟩
   rw [opt_step hkl] at h
   simp only [hu]
   rw [wrap_succ (by omega)]
   refine rd_dec (by omega) (rd_dec (by omega) (rd_yes ⟨q1,kl8,hl,q2⟩ (rd_ite (fun c1=>?_) fun c1=>?_)))
   ·have fin:(G21_14 [.i 3,.i e.I,.i (sets.L.length:Int),.i n'.I,.i set.I,.i ((opts.L.length + 1:Nat):Int),.i b.I,.i x.I,.l cs.L,.i m.I,.i ((k + 1:Nat):Int),.l cs.L,.l ls.L,.i rv.I,.l bs.L,.l bc.L,.i bw.I,.b fd.B,.l sets.L,.i (sets.L.length:Int),.i (comps.L.length:Int),.i pw.I,.l (opts.L ++ [[.i (k:Int),.i (usedAll (cs.L.getD k []) ls.L sets.L set.I).1]]),.l comps.L]).run = some rr:=by
     rw [if_pos c1] at h
     refine (need_yes ⟨rfl,hP' _ _ rfl rfl,hS',rfl,by simp only [I_i]; omega,by simp only [I_i,L_l,List.length_append,List.length_cons,List.length_nil]; try omega,by simp only [I_i]; omega,by simp only [I_i]; omega⟩).trans ?_
     simp only [I_i,L_l,B_b,List.append_assoc]
     exact h
    refine rd_need rfl (rd_false rfl (rd_dec (by omega) (rd_again fin ?_)))
    show ((m.I - ((k + 1:Nat):Int)).toNat) < ((m.I - i.I).toNat)
    omega
   ·have fin:(G21_14 [.i 3,.i e.I,.i (sets.L.length:Int),.i n'.I,.i set.I,.i (opts.L.length:Int),.i b.I,.i x.I,.l cs.L,.i m.I,.i ((k + 1:Nat):Int),.l cs.L,.l ls.L,.i rv.I,.l bs.L,.l bc.L,.i bw.I,.b fd.B,.l sets.L,.i (sets.L.length:Int),.i (comps.L.length:Int),.i pw.I,.l opts.L,.l comps.L]).run = some rr:=by
     rw [if_neg (by rw [c1]; decide)] at h
     refine (need_yes ⟨rfl,hP' _ _ rfl rfl,hS',rfl,by simp only [I_i]; omega,rfl,by simp only [I_i]; omega,by simp only [I_i]; omega⟩).trans ?_
     simp only [I_i,L_l,B_b]
     exact h
    refine rd_again fin ?_
    show ((m.I - ((k + 1:Nat):Int)).toNat) < ((m.I - i.I).toNat)
    omega
  ·rw [opt_end (by omega),List.append_nil] at h
   exact rd_out h
 ·cases h
theorem optF_mem {cs ls sets:List (List D)} {set:Int}:∀ (k i:Nat) (y:List D),y ∈ optF cs ls sets set i k → ∃ j,i ≤ j ∧ j < i + k ∧ (usedAll (cs.getD j []) ls sets set).2 = true ∧ y = [.i j,.i (usedAll (cs.getD j []) ls sets set).1]
 | 0,i,y,h=>by cases h
 | k + 1,i,y,h=>by
   simp only [optF] at h
   split at h
   ·rename_i c
    rw [List.mem_cons] at h
    rcases h with rfl | h
    ·exact ⟨i,Nat.le_refl _,by omega,c,rfl⟩
    ·obtain ⟨j,h1,h2,h3⟩:=optF_mem k (i + 1) y h
     exact ⟨j,by omega,by omega,h3⟩
   ·obtain ⟨j,h1,h2,h3⟩:=optF_mem k (i + 1) y h
    exact ⟨j,by omega,by omega,h3⟩
theorem optF_all {cs ls sets:List (List D)} {set:Int}:∀ (k i j:Nat),i ≤ j → j < i + k → (usedAll (cs.getD j []) ls sets set).2 = true → [D.i j,.i (usedAll (cs.getD j []) ls sets set).1] ∈ optF cs ls sets set i k
 | 0,i,j,h1,h2,_=>by omega
 | k + 1,i,j,h1,h2,h=>by
   simp only [optF]
   by_cases e:i = j
   ·subst e
    rw [if_pos h]
    exact List.mem_cons_self ..
   ·have:=optF_all k (i + 1) j (by omega) (by omega) h
    split
    ·exact List.mem_cons_of_mem _ this
    ·exact this
theorem bestO_mem:∀ (l:List (List D)) (o:List D),bestO o l = o ∨ ∃ x ∈ l,bestO o l = mkR x
 | [],o=>.inl rfl
 | x :: l,o=>by
   rcases bestO_mem l (lessO x o) with h | ⟨y,hy,h⟩
   ·by_cases c:ix x 1 < ix o 1
    ·exact .inr ⟨x,List.mem_cons_self ..,by show bestO (lessO x o) l = _; rw [h]; exact if_pos c⟩
    ·exact .inl (by show bestO (lessO x o) l = _; rw [h]; exact if_neg c)
   ·exact .inr ⟨y,List.mem_cons_of_mem _ hy,h⟩
theorem lessO_le (x o:List D):ix (lessO x o) 1 ≤ ix o 1 ∧ ix (lessO x o) 1 ≤ ix x 1:=by
 unfold lessO
 split
 ·exact ⟨by show ix x 1 ≤ _; omega,Int.le_refl _⟩
 ·omega
theorem bestO_le:∀ (l:List (List D)) (o:List D),ix (bestO o l) 1 ≤ ix o 1 ∧ ∀ x ∈ l,ix (bestO o l) 1 ≤ ix x 1
 | [],o=>⟨Int.le_refl _,fun _ h=>by cases h⟩
 | x :: l,o=>by
   obtain ⟨h1,h2⟩:=bestO_le l (lessO x o)
   obtain ⟨h3,h4⟩:=lessO_le x o
   refine ⟨by show ix (bestO (lessO x o) l) 1 ≤ _; omega,fun y hy=>?_⟩
   show ix (bestO (lessO x o) l) 1 ≤ _
   rw [List.mem_cons] at hy
   rcases hy with rfl | hy
   ·omega
   ·exact h2 y hy
theorem bestL_of {l:List (List D)} (h:l ≠ []):(∃ x ∈ l,bestL l = mkR x) ∧ ∀ x ∈ l,ix (bestL l) 1 ≤ ix x 1:=by
 cases l with
 | nil=>exact absurd rfl h
 | cons a l=>
   have e:bestL (a :: l) = bestO (mkR a) l:=rfl
   rw [e]
   obtain ⟨h1,h2⟩:=bestO_le l (mkR a)
   refine ⟨?_,fun x hx=>?_⟩
   ·rcases bestO_mem l (mkR a) with h | ⟨y,hy,h⟩
    ·exact ⟨a,List.mem_cons_self ..,h⟩
    ·exact ⟨y,List.mem_cons_of_mem _ hy,h⟩
   ·rw [List.mem_cons] at hx
    rcases hx with rfl | hx
    ·exact h1
    ·exact h2 x hx
theorem opt_best {cs ls sets:List (List D)} {set:Int} (h:(optA cs ls sets set).isEmpty = false):∃ j:Nat,j < cs.length ∧ (usedAll (cs.getD j []) ls sets set).2 = true ∧ ix (bestL (optA cs ls sets set)) 0 = j ∧ ix (bestL (optA cs ls sets set)) 1 = (usedAll (cs.getD j []) ls sets set).1:=by
 have hne:optA cs ls sets set ≠ []:=fun e=>by rw [e] at h; cases h
 obtain ⟨⟨x,hx,e⟩,-⟩:=bestL_of hne
 obtain ⟨j,-,h2,h3,rfl⟩:=optF_mem _ _ _ hx
 exact ⟨j,by omega,h3,by rw [e]; rfl,by rw [e]; rfl⟩
theorem opt_least {cs ls sets:List (List D)} {set:Int} {j:Nat} (hj:j < cs.length) (h:(usedAll (cs.getD j []) ls sets set).2 = true):(optA cs ls sets set).isEmpty = false ∧ ix (bestL (optA cs ls sets set)) 1 ≤ (usedAll (cs.getD j []) ls sets set).1:=by
 have hm:=optF_all cs.length 0 j (Nat.zero_le _) (by omega) h
 have hne:optA cs ls sets set ≠ []:=fun e=>by
  have hm:_ ∈ optA cs ls sets set:=hm
  rw [e] at hm; cases hm
 refine ⟨by cases hq:optA cs ls sets set with
  | nil=>exact absurd hq hne
  | cons _ _=>rfl,?_⟩
 have:=(bestL_of hne).2 _ hm
 exact this
theorem used_nn {cs ls sets:List (List D)} {set:Int} (ht:TaskP cs ls) {j:Nat} (hj:j < cs.length):0 ≤ (usedAll (cs.getD j []) ls sets set).1 ∧ (usedAll (cs.getD j []) ls sets set).1 ≤ 24000000:=by
 obtain ⟨-,hl,h⟩:=task_of ht
 obtain ⟨-,-,h3⟩:=h j hj
 have:=used_rng (c:=cs.getD j []) (ls:=ls) (sets:=sets) (set:=set) h3 ls.length 0 0 0 (by omega) (by omega) (by omega) (by omega)
 unfold usedAll
 omega
theorem sums_ge {cs ls sets comps:List (List D)} (ht:TaskP cs ls):∀ (k i:Nat) (s:Int),(sumsFrom cs ls sets comps i k s).2 = true → s ≤ (sumsFrom cs ls sets comps i k s).1
 | 0,_,s,_=>Int.le_refl _
 | k + 1,i,s,h=>by
   simp only [sumsFrom] at h ⊢
   split at h
   ·rename_i c
    rw [if_pos c]
    split at h
    ·rename_i c2
     rw [if_pos c2]
     have hw:=Lite.within_iff.1 c
     have h1:=used_nn (sets:=sets) (set:=(i:Int)) ht (j:=(ix (comps.getD i []) 0).toNat) (by omega)
     have:=sums_ge ht k (i + 1) _ h
     omega
    ·cases h
   ·cases h
theorem sets_le {cs ls sets comps:List (List D)} (ht:TaskP cs ls) {fd:Bool} {w:Int}:∀ (k i:Nat) (cp:List (List D)) (s t:Int),s ≤ t → (sumsFrom cs ls sets comps i k t).2 = true →
    match setsF cs ls sets fd w i k cp s with
    | some r=>r.2 ≤ (sumsFrom cs ls sets comps i k t).1
    | none=>fd = true ∧ w < (sumsFrom cs ls sets comps i k t).1
 | 0,_,_,s,t,hst,_=>hst
 | k + 1,i,cp,s,t,hst,h=>by
   simp only [sumsFrom] at h ⊢
   split at h
   ·rename_i c
    rw [if_pos c]
    split at h
    ·rename_i c2
     rw [if_pos c2]
     have hw:=Lite.within_iff.1 c
     obtain ⟨o1,o2⟩:=opt_least (j:=(ix (comps.getD i []) 0).toNat) (by omega) c2
     have hs:=sums_ge ht k (i + 1) _ h
     simp only [setsF,o1,Bool.false_eq_true,if_false]
     by_cases c3:(fd && decide (w < s + ix (bestL (optA cs ls sets i)) 1)) = true
     ·rw [if_pos c3]
      rw [Bool.and_eq_true,decide_eq_true_iff] at c3
      exact ⟨c3.1,by omega⟩
     ·rw [if_neg c3]
      exact sets_le ht k (i + 1) _ _ _ (by omega) h
    ·cases h
   ·cases h
theorem getD_app {α:Type} {a:List α} {x d:α} {i:Nat} (h:a.length = i):(a ++ [x]).getD i d = x:=by
 subst h
 rw [List.getD_eq_getElem?_getD,List.getElem?_append_right (Nat.le_refl _),Nat.sub_self]
 rfl
theorem sums_congr {cs ls s1 s2 c1 c2:List (List D)} (hs:∀ x,usedAll x ls s1 = usedAll x ls s2):∀ (k i:Nat) (t:Int),(∀ j,i ≤ j → j < i + k → ix (c1.getD j []) 0 = ix (c2.getD j []) 0) → sumsFrom cs ls s1 c1 i k t = sumsFrom cs ls s2 c2 i k t
 | 0,_,_,_=>rfl
 | k + 1,i,t,h=>by
   simp only [sumsFrom]
   rw [h i (Nat.le_refl _) (by omega),hs,sums_congr hs k (i + 1) _ fun j h1 h2=>h j (by omega) (by omega)]
theorem sets_ok {cs ls sets:List (List D)} {fd:Bool} {w:Int}:∀ (k i:Nat) (cp:List (List D)) (s:Int) (r:List (List D) × Int),cp.length = i → setsF cs ls sets fd w i k cp s = some r →
    ∃ tl,r.1 = cp ++ tl ∧ tl.length = k ∧ sumsFrom cs ls sets r.1 i k s = (r.2,true)
 | 0, i,cp,s,r,hl,h=>by
   cases h
   exact ⟨[],by simp,rfl,rfl⟩
 | k + 1,i,cp,s,r,hl,h=>by
   simp only [setsF] at h
   split at h
   ·cases h
   rename_i c
   split at h
   ·cases h
   obtain ⟨j,hj,h1,h2,h3⟩:=opt_best (by simpa using c)
   obtain ⟨tl,e1,e2,e3⟩:=sets_ok k (i + 1) _ _ r (by simp [hl]) h
   refine ⟨[.i (ix (bestL (optA cs ls sets i)) 0)] :: tl,by rw [e1]; simp,by simp [e2],?_⟩
   have eg:ix (r.1.getD i []) 0 = j:=by
    rw [e1,List.getD_eq_getElem?_getD,List.getElem?_append_left (by simp [hl]),← List.getD_eq_getElem?_getD,getD_app hl]
    exact h2
   simp only [sumsFrom]
   rw [eg,if_pos (Lite.within_iff.2 (by omega)),Int.toNat_natCast,if_pos h1,← h3]
   exact e3
theorem sets_w {cs ls sets:List (List D)} {w:Int}:∀ (k i:Nat) (cp:List (List D)) (s:Int) (r:List (List D) × Int),s ≤ w → setsF cs ls sets true w i k cp s = some r → r.2 ≤ w
 | 0,i,cp,s,r,hs,h=>by cases h; exact hs
 | k + 1,i,cp,s,r,hs,h=>by
   simp only [setsF] at h
   split at h
   ·cases h
   split at h
   ·cases h
   rename_i c
   have c:¬ w < s + ix (bestL (optA cs ls sets i)) 1:=by simpa using c
   exact sets_w k (i + 1) _ _ r (by omega) h
def InvP (cs ls:List (List D)) (A:Int) (done:List (List D)) (p:Pl):Prop:=
 (p.fd = true → 0 ≤ p.w ∧ (p.cp.length:Int) ≤ A ∧ p.sets.length = ls.length ∧ countFrom p.sets 0 p.sets.length 0 = ((p.cp.length:Int),true) ∧ sumsFrom cs ls p.sets p.cp 0 p.cp.length 0 = (p.w,true)) ∧
 ∀ y ∈ done,∀ comps:List (List D),(comps.length:Int) = yN y → (sumsFrom cs ls (ySets y) comps 0 comps.length 0).2 = true → p.fd = true ∧ p.w ≤ (sumsFrom cs ls (ySets y) comps 0 comps.length 0).1
def okY (ls:List (List D)) (A:Int) (y:List D):Prop:=0 ≤ yN y ∧ yN y ≤ A ∧ (ySets y).length = ls.length ∧ countFrom (ySets y) 0 (ySets y).length 0 = (yN y,true)
theorem step_inv {cs ls:List (List D)} {A:Int} (ht:TaskP cs ls) {done:List (List D)} {p:Pl} {y:List D} (hy:okY ls A y) (h:InvP cs ls A done p):InvP cs ls A (y :: done) (stepT cs ls p (ySets y) (yN y)):=by
 obtain ⟨h1,h2⟩:=h
 obtain ⟨y0,y1,y2,y3⟩:=hy
 unfold stepT
 have hle:=fun (comps:List (List D)) (hc:(comps.length:Int) = yN y) (hs:(sumsFrom cs ls (ySets y) comps 0 comps.length 0).2 = true)=>sets_le (fd:=p.fd) (w:=p.w) (cp:=[]) (s:=0) ht comps.length 0 0 (Int.le_refl _) hs
 have hn:∀ comps:List (List D),(comps.length:Int) = yN y → comps.length = (yN y).toNat:=fun c e=>by omega
 cases hq:setsF cs ls (ySets y) p.fd p.w 0 (yN y).toNat [] 0 with
 | none=>
   refine ⟨h1,fun z hz comps hc hs=>?_⟩
   rw [List.mem_cons] at hz
   rcases hz with rfl | hz
   ·have:=hle comps hc hs
    rw [hn comps hc,hq] at this
    rw [hn comps hc]
    have h7:p.fd = true ∧ p.w < (sumsFrom cs ls (ySets z) comps 0 (yN z).toNat 0).1:=this
    exact ⟨h7.1,Int.le_of_lt h7.2⟩
   ·exact h2 z hz comps hc hs
 | some r=>
   obtain ⟨tl,e1,e2,e3⟩:=sets_ok _ 0 [] 0 r rfl hq
   rw [List.nil_append] at e1
   have el:r.1.length = (yN y).toNat:=by rw [e1,e2]
   have hr:∀ comps:List (List D),(comps.length:Int) = yN y → (sumsFrom cs ls (ySets y) comps 0 comps.length 0).2 = true → r.2 ≤ (sumsFrom cs ls (ySets y) comps 0 comps.length 0).1:=fun comps hc hs=>by
    have:=hle comps hc hs
    rw [hn comps hc,hq] at this
    rw [hn comps hc]
    exact this
   have hr0:0 ≤ r.2:=by
    have:=sums_ge ht (sets:=ySets y) (comps:=r.1) (yN y).toNat 0 0 (by rw [e3])
    rw [e3] at this
    exact this
   by_cases c:(!p.fd || decide (r.2 < p.w) || decide (yN y < p.cp.length)) = true
   ·simp only [c,if_true]
    refine ⟨fun _=>⟨hr0,by show (r.1.length:Int) ≤ A; omega,y2,by show countFrom (ySets y) 0 (ySets y).length 0 = _; rw [y3,el,Int.toNat_of_nonneg y0],by show sumsFrom cs ls (ySets y) r.1 0 r.1.length 0 = _; rw [el]; exact e3⟩,fun z hz comps hc hs=>⟨rfl,?_⟩⟩
    show r.2 ≤ _
    rw [List.mem_cons] at hz
    rcases hz with rfl | hz
    ·exact hr comps hc hs
    ·obtain ⟨k1,k2⟩:=h2 z hz comps hc hs
     have hw:=(h1 k1).1
     rw [k1] at hq
     have:=sets_w _ _ _ _ _ hw hq
     omega
   ·have c':(!p.fd || decide (r.2 < p.w) || decide (yN y < p.cp.length)) = false:=by simpa using c
    simp only [c',Bool.false_eq_true,if_false]
    rw [Bool.or_eq_false_iff,Bool.or_eq_false_iff,decide_eq_false_iff_not] at c'
    refine ⟨h1,fun z hz comps hc hs=>?_⟩
    rw [List.mem_cons] at hz
    rcases hz with rfl | hz
    ·have:=hr comps hc hs
     exact ⟨by simpa using c'.1.1,by omega⟩
    ·exact h2 z hz comps hc hs
theorem fold_inv {cs ls:List (List D)} {A:Int} (ht:TaskP cs ls):∀ (l done:List (List D)) (p:Pl),(∀ y ∈ l,okY ls A y) → InvP cs ls A done p → ∃ d',(∀ y,y ∈ d' ↔ y ∈ l ∨ y ∈ done) ∧ InvP cs ls A d' (foldT cs ls l p)
 | [],done,p,_,h=>⟨done,fun y=>by simp,h⟩
 | y :: l,done,p,hl,h=>by
   obtain ⟨d',h1,h2⟩:=fold_inv ht l (y :: done) _ (fun z hz=>hl z (List.mem_cons_of_mem _ hz)) (step_inv ht (hl y (List.mem_cons_self ..)) h)
   exact ⟨d',fun z=>by rw [h1,List.mem_cons,List.mem_cons]; grind,h2⟩
theorem ySets_E (cs:List (List D)) (n:Int):ySets (yE cs n) = cs ∧ yN (yE cs n) = n:=by
 unfold yE
 cases cs with
 | nil=>exact ⟨rfl,rfl⟩
 | cons c cs=>exact ⟨rfl,rfl⟩
theorem useW_mem {F:List (List D) → Int → List (List D)} {cs:List (List D)} {n:Int} {y:List D}:∀ (k x:Nat),y ∈ useW F cs n x k ↔ ∃ v:Nat,x ≤ v ∧ v < x + k ∧ y ∈ F (cs ++ [[.i v]]) (max n ((v:Int) + 1))
 | 0, x=>by
   simp only [useW,List.not_mem_nil,false_iff]
   rintro ⟨v,h1,h2,-⟩
   omega
 | k + 1,x=>by
   simp only [useW,List.mem_append,useW_mem k (x + 1)]
   constructor
   ·rintro (h | ⟨v,h1,h2,h3⟩)
    ·exact ⟨x,Nat.le_refl _,by omega,h⟩
    ·exact ⟨v,by omega,by omega,h3⟩
   ·rintro ⟨v,h1,h2,h3⟩
    by_cases e:v = x
    ·subst e; exact .inl h3
    ·exact .inr ⟨v,by omega,by omega,h3⟩
theorem use_sound {A:Int}:∀ (k:Nat) (cs:List (List D)) (n:Int) (y:List D),0 ≤ n → n ≤ A → y ∈ useF A k cs n → ∃ tl,ySets y = cs ++ tl ∧ tl.length = k ∧ (0 ≤ yN y ∧ yN y ≤ A) ∧ countFrom (ySets y) cs.length k n = (yN y,true)
 | 0, cs,n,y,h0,h1,h=>by
   simp only [useF,List.mem_singleton] at h
   subst h
   obtain ⟨e1,e2⟩:=ySets_E cs n
   rw [e2,e1]
   exact ⟨[],by simp,rfl,⟨h0,h1⟩,rfl⟩
 | k + 1,cs,n,y,h0,h1,h=>by
   simp only [useF] at h
   rw [useW_mem] at h
   obtain ⟨v,-,hv,h⟩:=h
   obtain ⟨tl,e1,e2,e3,e4⟩:=use_sound k _ _ y (by omega) (by omega) h
   refine ⟨[.i v] :: tl,by rw [e1]; simp,by simp [e2],e3,?_⟩
   have eg:ix ((ySets y).getD cs.length []) 0 = v:=by
    rw [e1,List.getD_eq_getElem?_getD,List.getElem?_append_left (by simp),← List.getD_eq_getElem?_getD,getD_app rfl]
    rfl
   simp only [countFrom]
   rw [eg,if_pos (Lite.within_iff.2 (by omega))]
   rw [List.length_append,List.length_singleton] at e4
   exact e4
theorem count_ge {sets:List (List D)}:∀ (k i:Nat) (n:Int),(countFrom sets i k n).2 = true → n ≤ (countFrom sets i k n).1
 | k,i,n,h=>(count_lt k i n h).1
theorem use_all {A:Int} {sets:List (List D)} {m:Int} (hm:m ≤ A):∀ (k i:Nat) (cs:List (List D)) (n:Int),countFrom sets i k n = (m,true) → ∃ y ∈ useF A k cs n,∃ tl,ySets y = cs ++ tl ∧ tl.length = k ∧ yN y = m ∧ ∀ j,j < k → ix (tl.getD j []) 0 = ix (sets.getD (i + j) []) 0
 | 0, i,cs,n,h=>by
   obtain rfl:n = m:=congrArg Prod.fst h
   obtain ⟨e1,e2⟩:=ySets_E cs n
   exact ⟨yE cs n,by simp [useF],[],by rw [e1]; simp,rfl,e2,fun j hj=>by omega⟩
 | k + 1, i,cs,n,h=>by
   simp only [countFrom] at h
   split at h
   ·rename_i c
    have c:=Lite.within_iff.1 c
    have hg:=count_ge k (i + 1) _ (by rw [h])
    rw [h] at hg
    simp only at hg
    obtain ⟨v,hv⟩:∃ v:Nat,ix (sets.getD i []) 0 = v:=⟨(ix (sets.getD i []) 0).toNat,by omega⟩
    rw [hv] at h c hg
    obtain ⟨y,hy,tl,e1,e2,e3,e4⟩:=use_all hm k (i + 1) (cs ++ [[.i v]]) _ h
    refine ⟨y,?_,[.i v] :: tl,by rw [e1]; simp,by simp [e2],e3,fun j hj=>?_⟩
    ·simp only [useF]
     rw [useW_mem]
     exact ⟨v,Nat.zero_le _,by omega,hy⟩
    ·cases j with
     | zero=>show ix [D.i v] 0 = _; rw [Nat.add_zero,hv]; rfl
     | succ j=>
       have:=e4 j (by omega)
       rw [show i + (j + 1) = i + 1 + j by omega,← this]
       rfl
   ·cases h
theorem used_congr {c:List D} {ls s1 s2:List (List D)} {set:Int}:∀ (k i:Nat) (w s:Int),(∀ j,i ≤ j → j < i + k → ix (s1.getD j []) 0 = ix (s2.getD j []) 0) → usedFrom c ls s1 set i k w s = usedFrom c ls s2 set i k w s
 | 0,_,_,_,_=>rfl
 | k + 1,i,w,s,h=>by
   simp only [usedFrom]
   rw [h i (Nat.le_refl _) (by omega),used_congr k (i + 1) _ _ fun j h1 h2=>h j (by omega) (by omega),used_congr k (i + 1) _ _ fun j h1 h2=>h j (by omega) (by omega)]
theorem poss_iff {cs ls sets comps:List (List D)} {A:Int}:(possC cs ls sets comps A).2 = true ↔ taskOk cs ls A = true ∧ (comps.length:Int) ≤ A ∧ sets.length = ls.length ∧ countFrom sets 0 sets.length 0 = ((comps.length:Int),true) ∧ (sumsFrom cs ls sets comps 0 comps.length 0).2 = true ∧ possC cs ls sets comps A = sumsFrom cs ls sets comps 0 comps.length 0:=by
 unfold possC
 constructor
 ·intro h
  split at h
  ·rename_i c
   rw [if_pos c]
   simp only [Bool.and_eq_true,decide_eq_true_iff] at c
   exact ⟨c.1.1.1.1,c.1.1.1.2,c.1.1.2,Prod.ext c.2 c.1.2,h,rfl⟩
  ·cases h
 ·rintro ⟨h1,h2,h3,h4,h5,-⟩
  rw [if_pos (by rw [h1,h4,decide_eq_true h2,decide_eq_true h3]; simp)]
  exact h5
theorem tyre_inv {cs ls:List (List D)} {A:Int} (ht:taskOk cs ls A = true):∃ d',(∀ y,y ∈ d' ↔ y ∈ useF A ls.length [] 0) ∧ InvP cs ls A d' (tyreF cs ls A):=by
 have hA:1 ≤ A:=by
  simp only [taskOk,Bool.and_eq_true,Lite.within_iff] at ht
  omega
 obtain ⟨d',h1,h2⟩:=fold_inv ⟨A,ht⟩ (useF A ls.length [] 0) [] ⟨false,[],[],0⟩ (fun y hy=>by
  obtain ⟨tl,e1,e2,e3,e4⟩:=use_sound ls.length [] 0 y (Int.le_refl _) (by omega) hy
  rw [List.nil_append] at e1
  have el:(ySets y).length = ls.length:=by rw [e1,e2]
  exact ⟨e3.1,e3.2,el,by rw [el]; exact e4⟩) ⟨fun h=>(by cases h),fun y hy=>(by cases hy)⟩
 exact ⟨d',fun y=>by rw [h1]; simp,h2⟩
theorem tyre_poss {cs ls:List (List D)} {A:Int} (ht:taskOk cs ls A = true) (hf:(tyreF cs ls A).fd = true):possC cs ls (tyreF cs ls A).sets (tyreF cs ls A).cp A = ((tyreF cs ls A).w,true):=by
 obtain ⟨d',-,h,-⟩:=tyre_inv ht
 obtain ⟨-,h2,h3,h4,h5⟩:=h hf
 have:=poss_iff.1 (poss_iff.2 ⟨ht,h2,h3,h4,by rw [h5],by unfold possC; rw [if_pos (by rw [ht,h4,decide_eq_true h2,decide_eq_true h3]; simp)]⟩)
 rw [this.2.2.2.2.2,h5]
theorem tyre_least {cs ls sets comps:List (List D)} {A:Int} (h:(possC cs ls sets comps A).2 = true):(tyreF cs ls A).fd = true ∧ (tyreF cs ls A).w ≤ (possC cs ls sets comps A).1:=by
 obtain ⟨ht,h2,h3,h4,h5,h6⟩:=poss_iff.1 h
 obtain ⟨d',hd,-,hI⟩:=tyre_inv ht
 rw [h3] at h4
 obtain ⟨y,hy,tl,e1,e2,e3,e4⟩:=use_all h2 ls.length 0 [] 0 h4
 rw [List.nil_append] at e1
 have hu:∀ x,usedAll x ls (ySets y) = usedAll x ls sets:=fun x=>funext fun set=>used_congr ls.length 0 0 0 fun j h1 h2=>by
  rw [e1,e4 j (by omega),Nat.zero_add]
 have hs:=sums_congr (cs:=cs) (c1:=comps) (c2:=comps) hu comps.length 0 0 fun j _ _=>rfl
 have:=hI y ((hd y).2 hy) comps e3.symm (by rw [hs]; exact h5)
 rw [hs] at this
 rw [h6]
 exact this
theorem poss_more {cs ls sets comps:List (List D)} {A:Int} (h8:A < 8) (h:(possC cs ls sets comps A).2 = true):(possC cs ls sets comps (A + 1)).2 = true ∧ (possC cs ls sets comps (A + 1)).1 = (possC cs ls sets comps A).1:=by
 obtain ⟨ht,h2,h3,h4,h5,h6⟩:=poss_iff.1 h
 have ht':taskOk cs ls (A + 1) = true:=by
  unfold taskOk at ht ⊢
  simp only [Bool.and_eq_true,Lite.within_iff] at ht ⊢
  exact ⟨⟨⟨ht.1.1.1,by omega⟩,ht.1.2⟩,ht.2⟩
 have hx:possC cs ls sets comps (A + 1) = sumsFrom cs ls sets comps 0 comps.length 0:=by
  unfold possC
  rw [if_pos (by rw [ht',h4,decide_eq_true (by omega:(comps.length:Int) ≤ A + 1),decide_eq_true h3]; simp)]
 rw [hx,h6]
 exact ⟨h5,rfl⟩
set_option maxRecDepth 100000
set_option linter.unusedSimpArgs false
theorem sets_step {cs ls sets:List (List D)} {fd:Bool} {w s n:Int} {X:Nat} {cp:List (List D)} (h:(X:Int) < n):setsF cs ls sets fd w X (n - (X:Int)).toNat cp s = if (optA cs ls sets X).isEmpty then none else
      if fd && decide (w < s + ix (bestL (optA cs ls sets X)) 1) then none else
       setsF cs ls sets fd w (X + 1) (n - ((X + 1:Nat):Int)).toNat (cp ++ [[.i (ix (bestL (optA cs ls sets X)) 0)]]) (s + ix (bestL (optA cs ls sets X)) 1):=by
 rw [show (n - (X:Int)).toNat = (n - ((X + 1:Nat):Int)).toNat + 1 by omega]
 rfl
theorem sets_end {cs ls sets:List (List D)} {fd:Bool} {w s n:Int} {X:Nat} {cp:List (List D)} (h:¬ (X:Int) < n):setsF cs ls sets fd w X (n - (X:Int)).toNat cp s = some (cp,s):=by
 rw [show (n - (X:Int)).toNat = 0 by omega]
 rfl
theorem opt_rng {cs ls sets:List (List D)} {set:Int} (ht:TaskP cs ls) (h:(optA cs ls sets set).isEmpty = false):0 ≤ ix (bestL (optA cs ls sets set)) 1 ∧ ix (bestL (optA cs ls sets set)) 1 ≤ 24000000:=by
 obtain ⟨j,hj,-,-,e⟩:=opt_best h
 rw [e]
 exact used_nn ht hj
theorem optF_len {cs ls sets:List (List D)} {set:Int}:∀ k i,(optF cs ls sets set i k).length ≤ k
 | 0,_=>Nat.le_refl _
 | k + 1,i=>by
   have:=optF_len (cs:=cs) (ls:=ls) (sets:=sets) (set:=set) k (i + 1)
   simp only [optF]
   split
   ·simp only [List.length_cons]; omega
   ·omega
theorem iteS {α:Type} {r:Option (List (List D) × Int)} {P Q E:T α} {x:α} (hne:∀ y,r = some y → y.1.isEmpty = false) (h:(T.ite r.isSome (T.ite (resF r).1.isEmpty P Q) E).run = some x):(T.ite r.isSome Q E).run = some x:=by
 cases r with
 | none=>exact h
 | some y=>
   have e:(resF (some y)).1.isEmpty = false:=hne y rfl
   rw [e] at h
   exact h
def μ10 (ds:List D):Nat:=match ds with
 | [_,_,_,_,b,x,_,_,_,_,_,_,_,_,_,_]=>(b.I - x.I).toNat
 | [_,_,_,_,b,x,_,_,_,_,_,_,_,_,_,_,_,_]=>(b.I - x.I).toNat
 | _=>0
set_option maxHeartbeats 2000000 in
theorem ok21_10 (n:Nat) (hA:AllOK C n sp21):LoopSimK C n 6 21 (loopOf C.P 21 10) (mkLK 6 l21_10 G21_10):=by
 refine loop_ofR hC (sp:=sp21) (lp:=lp21) (sw:=sw21) (rg:=rg21) hA trivial 6 [14] [] (by kernel_rfl) (by kernel_rfl) (by kernel_rfl) rfl (fun k hk L hL=>by simp at hk; subst hk; cases hL; exact ok21_14 n hA) (fun k hk=>by cases hk) (by kernel_rfl) μ10 fun ds rr h=>?_
 unfold G21_10 at h
 split at h
 ·rename_i y e s n' b x cs ls rv bs bc bw fd sets s2 pw
  unfold G21_10_0 at h
  obtain ⟨hp,h⟩:=need_some h
  rw [yes_iff] at hp
  obtain ⟨hy,hP,hL,hx0⟩:=hp
  obtain ⟨hT,⟨hs,hs2,hl⟩,hn0,hn8⟩:=id hP
  obtain ⟨hb,⟨x0,x1⟩,hcl,w0,w1⟩:=hL
  obtain ⟨⟨kn0,kn8⟩,kl8,kc⟩:=task_of hT
  refine ⟨by rw [fuelC]; show (b.I - x.I).toNat < _; omega,?_⟩
  rw [roundTK_head (j:=y) (n:=0) hy (by decide)]
  refine rd_runY (t21_10_0 e s n' b x cs ls rv bs bc bw fd sets s2 pw) ?_
  obtain ⟨X,hX⟩:∃ X:Nat,x.I = X:=⟨x.I.toNat,by omega⟩
  have et:∀ l:List (List D),l.take l.length = l:=fun l=>List.take_length
  have eA:optI cs.L ls.L sets.L (X:Int) 0 = optA cs.L ls.L sets.L (X:Int):=rfl
  simp only [hX,hs,hs2,et,Int.toNat_natCast,eA,b3y] at h x0 x1 hcl w1 ⊢
  rw [hb]
  refine rd_if (fun hlt=>?_) fun hge=>?_
  ·rw [sets_step hlt] at h
   have hS':setP n'.I (X:Int) n'.I pw.I (X:Int) 0 (cs.L.length:Int) cs.L cs.L []:=⟨⟨rfl,⟨x0,x1⟩,hcl,w0,w1⟩,rfl,hlt,rfl,rfl,by omega,by omega⟩
   have hP':planP cs.L ls.L sets.L (sets.L.length:Int) (sets.L.length:Int) n'.I:=⟨hT,⟨rfl,rfl,hl⟩,hn0,hn8⟩
   refine rd_yes ⟨by trivial,hP',hS',by omega⟩ (rd_ite (fun c1=>?_) fun c1=>?_)
   ·rw [if_pos c1] at h
    exact rd_true rfl (rd_out h)
   ·rw [if_neg (by rw [c1]; decide)] at h
    have hr:=opt_rng hT c1
    have hlen:=optF_len (cs:=cs.L) (ls:=ls.L) (sets:=sets.L) (set:=(X:Int)) cs.L.length 0
    have hlA:(optA cs.L ls.L sets.L (X:Int)).length ≤ cs.L.length:=hlen
    have hpos:0 < (optA cs.L ls.L sets.L (X:Int)).length:=by
     cases hq:optA cs.L ls.L sets.L (X:Int) with
     | nil=>rw [hq] at c1; cases c1
     | cons _ _=>simp
    generalize hbb:bestL (optA cs.L ls.L sets.L (X:Int)) = bb at h hr ⊢
    have hw:IntKind.i64.wrap (pw.I + ix bb 1) = pw.I + ix bb 1:=wrap_id (by omega) (by omega)
    rw [hw,wrap_succ (by omega)]
    have hmu:(n'.I - ((X + 1:Nat):Int)).toNat < (b.I - x.I).toNat:=by omega
    have fin:(fd.B && decide (bw.I < pw.I + ix bb 1)) = false → (G21_10 [.i 1,.i e.I,.i (sets.L.length:Int),.i n'.I,.i n'.I,.i ((X + 1:Nat):Int),.l cs.L,.l ls.L,.i rv.I,.l bs.L,.l bc.L,.i bw.I,.b fd.B,.l sets.L,.i (sets.L.length:Int),.i 1,.i (pw.I + ix bb 1),.l [[.i (ix bb 0)]]]).run = some rr:=fun hc1=>by
     rw [if_neg (by rw [hc1]; decide)] at h
     refine (need_yes ⟨rfl,hP',⟨rfl,⟨by simp only [I_i]; omega,by simp only [I_i]; omega⟩,by simp only [I_i,L_l,List.length_append,List.length_cons,List.length_nil]; omega,by simp only [I_i]; omega,by simp only [I_i]; omega⟩,by simp only [I_i,L_l,List.length_append,List.length_cons,List.length_nil]; try omega,by simp only [I_i]; omega⟩).trans ?_
     simp only [I_i,L_l,B_b,Int.toNat_natCast]
     exact iteS (fun y hy=>by
      obtain ⟨tl,e1,-,-⟩:=sets_ok _ (X + 1) _ _ _ (by simp; omega) hy
      rw [e1]; rfl) h
    refine rd_false (by rw [beq_eq_false_iff_ne]; omega) (rd_dec (by omega) (rd_yes ⟨hpos,by omega⟩ (rd_need rfl (rd_false rfl (rd_need rfl (rd_ite (fun c2=>rd_if (fun c3=>?_) fun c3=>rd_again (fin ?_) hmu) fun c2=>rd_again (fin ?_) hmu))))))
    ·rw [if_pos (by rw [c2,decide_eq_true (by omega)]; rfl)] at h
     exact rd_out h
    ·rw [c2,decide_eq_false (by omega)]; rfl
    ·rw [c2]; rfl
  ·rw [sets_end hge] at h
   exact rd_out h
 ·rename_i y e s n' b x cs ls rv bs bc bw fd sets s2 c pw comps
  unfold G21_10_1 at h
  obtain ⟨hp,h⟩:=need_some h
  rw [yes_iff] at hp
  obtain ⟨hy,hP,hL,hc,hc0⟩:=hp
  obtain ⟨hT,⟨hs,hs2,hl⟩,hn0,hn8⟩:=id hP
  obtain ⟨hb,⟨x0,x1⟩,hcl,w0,w1⟩:=hL
  obtain ⟨⟨kn0,kn8⟩,kl8,kc⟩:=task_of hT
  refine ⟨by rw [fuelC]; show (b.I - x.I).toNat < _; omega,?_⟩
  rw [roundTK_head (j:=y) (n:=1) hy (by decide)]
  refine rd_runY (t21_10_1 e s n' b x cs ls rv bs bc bw fd sets s2 c pw comps) ?_
  obtain ⟨X,hX⟩:∃ X:Nat,x.I = X:=⟨x.I.toNat,by omega⟩
  have et:∀ l:List (List D),l.take l.length = l:=fun l=>List.take_length
  have eA:optI cs.L ls.L sets.L (X:Int) 0 = optA cs.L ls.L sets.L (X:Int):=rfl
  simp only [hX,hs,hs2,et,hc,Int.toNat_natCast,eA,b3y] at h x0 x1 hcl w1 ⊢
  rw [hb]
  refine rd_if (fun hlt=>?_) fun hge=>?_
  ·rw [sets_step hlt] at h
   have hS':setP n'.I (X:Int) n'.I pw.I (X:Int) 0 (cs.L.length:Int) cs.L cs.L comps.L:=⟨⟨rfl,⟨x0,x1⟩,hcl,w0,w1⟩,rfl,hlt,rfl,rfl,by omega,by omega⟩
   have hP':planP cs.L ls.L sets.L (sets.L.length:Int) (sets.L.length:Int) n'.I:=⟨hT,⟨rfl,rfl,hl⟩,hn0,hn8⟩
   refine rd_yes ⟨by trivial,hP',hS',by trivial,by omega⟩ (rd_ite (fun c1=>?_) fun c1=>?_)
   ·rw [if_pos c1] at h
    exact rd_true rfl (rd_out h)
   ·rw [if_neg (by rw [c1]; decide)] at h
    have hr:=opt_rng hT c1
    have hlen:=optF_len (cs:=cs.L) (ls:=ls.L) (sets:=sets.L) (set:=(X:Int)) cs.L.length 0
    have hlA:(optA cs.L ls.L sets.L (X:Int)).length ≤ cs.L.length:=hlen
    have hpos:0 < (optA cs.L ls.L sets.L (X:Int)).length:=by
     cases hq:optA cs.L ls.L sets.L (X:Int) with
     | nil=>rw [hq] at c1; cases c1
     | cons _ _=>simp
    generalize hbb:bestL (optA cs.L ls.L sets.L (X:Int)) = bb at h hr ⊢
    have hw:IntKind.i64.wrap (pw.I + ix bb 1) = pw.I + ix bb 1:=wrap_id (by omega) (by omega)
    rw [hw,wrap_succ (by omega)]
    have hmu:(n'.I - ((X + 1:Nat):Int)).toNat < (b.I - x.I).toNat:=by omega
    have fin:(fd.B && decide (bw.I < pw.I + ix bb 1)) = false → (G21_10 [.i 1,.i e.I,.i (sets.L.length:Int),.i n'.I,.i n'.I,.i ((X + 1:Nat):Int),.l cs.L,.l ls.L,.i rv.I,.l bs.L,.l bc.L,.i bw.I,.b fd.B,.l sets.L,.i (sets.L.length:Int),.i ((comps.L.length + 1:Nat):Int),.i (pw.I + ix bb 1),.l (comps.L ++ [[.i (ix bb 0)]])]).run = some rr:=fun hc1=>by
     rw [if_neg (by rw [hc1]; decide)] at h
     refine (need_yes ⟨rfl,hP',⟨rfl,⟨by simp only [I_i]; omega,by simp only [I_i]; omega⟩,by simp only [I_i,L_l,List.length_append,List.length_cons,List.length_nil]; omega,by simp only [I_i]; omega,by simp only [I_i]; omega⟩,by simp only [I_i,L_l,List.length_append,List.length_cons,List.length_nil]; try omega,by simp only [I_i]; omega⟩).trans ?_
     simp only [I_i,L_l,B_b,Int.toNat_natCast]
     exact h
    refine rd_false (by rw [beq_eq_false_iff_ne]; omega) (rd_dec (by omega) (rd_yes ⟨hpos,by omega⟩ (rd_need rfl (rd_false rfl (rd_dec (by omega) (rd_ite (fun c2=>rd_if (fun c3=>?_) fun c3=>rd_again (fin ?_) hmu) fun c2=>rd_again (fin ?_) hmu))))))
    ·rw [if_pos (by rw [c2,decide_eq_true (by omega)]; rfl)] at h
     exact rd_out h
    ·rw [c2,decide_eq_false (by omega)]; rfl
    ·rw [c2]; rfl
  ·rw [sets_end hge] at h
   exact rd_out h
 ·cases h
theorem ok21_10n (n:Nat) (hA:AllOK C n sp21):LoopSimK C n 5 21 (loopOf C.P 21 10) (mkLK 5 l21_10n G21_10n):=by
 refine loop_ofR hC (sp:=sp21) (lp:=lp21n) (sw:=sw21) (rg:=rg21) hA trivial 5 [14] [] (by kernel_rfl) (by kernel_rfl) (by kernel_rfl) rfl (fun k hk L hL=>by simp at hk; subst hk; cases hL) (fun k hk=>by cases hk) (by kernel_rfl) (fun _=>0) fun ds rr h=>?_
 unfold G21_10n at h
 split at h
 ·rename_i e n' b x cs ls rv bs bc bw fd pw
  obtain ⟨hp,h⟩:=need_some h
  rw [yes_iff] at hp
  refine ⟨by rw [fuelC]; omega,?_⟩
  exact rd_runY (ds:=[e,n',b,x,cs,ls,rv,bs,bc,bw,fd,pw]) (t21_10n e n' b x cs ls rv bs bc bw fd pw) (rd_neg (by omega) (rd_out h))
 ·cases h
set_option maxRecDepth 100000
noncomputable def tabOf21 (el:List D):Tab:=match (el.headD default).I == 0 with
 | true=>tab21n
 | false=>tab21
theorem h21_len (ds:List D):(headA h21_8 ds).h.length = 5:=rfl
noncomputable def R21 (ds el:List D):Option (Rd × List D):=(roundRT C (tabOf21 el) 21 (rangeOf C.P 21 8) 0 ((headA h21_8 ds).h.length + (y84.head el).2.length) [3,4,6,7,8,9,29] h21_8 y84 ds el).run
theorem yE_cons {S:List (List D)} {N:Int} (h:S ≠ []):yE S N = [.i 1,.i S.length,.i N,.l S]:=by
 unfold yE
 rw [List.isEmpty_eq_false_iff.2 h]
 rfl
theorem ite_c {α:Type} {c c':Bool} {a a' b b':T α} (hc:c = c') (ha:a.run = a'.run) (hb:b.run = b'.run):(T.ite c a b).run = (T.ite c' a' b').run:=by
 subst hc
 rw [run_ite,run_ite,ha,hb]
theorem need_c {α:Type} {c:Bool} {a:T α} {x:Option α} (hc:c = true) (ha:a.run = x):(T.need c a).run = x:=by
 subst hc
 exact ha
theorem resF_some (r:List (List D) × Int):resF (some r) = r:=rfl
set_option maxHeartbeats 2000000 in
theorem fold21 (L:List (List D)):∀ (ds:List D) (rr:Ex × List D),(G21_8 L ds).run = some rr → FoldR R21 y84.give (fun a b=>headA h21_8 a = headA h21_8 b) ds L rr.1 rr.2:=by
 induction L with
 | nil=>
   intro ds rr h
   unfold G21_8 at h
   split at h
   ·rename_i e cs ls rv bs bc bw fd
    obtain ⟨-,h⟩:=need_some h
    cases h
    exact .nil rfl
   ·cases h
 | cons y L ih=>
   intro ds rr h
   unfold G21_8 at h
   split at h
   ·rename_i e cs ls rv bs bc bw fd
    obtain ⟨hp,h⟩:=need_some h
    rw [yes_iff] at hp
    obtain ⟨hT,hY,hb1,hb2⟩:=hp
    obtain ⟨⟨kn0,kn8⟩,kl8,-⟩:=task_of hT
    obtain ⟨y1,⟨y2,y3⟩,y4,y5⟩:=hY y (List.mem_cons_self ..)
    have hY':∀ z ∈ L,okYd ls.L z:=fun z hz=>hY z (List.mem_cons_of_mem _ hz)
    have hf:foldT cs.L ls.L (y :: L) (plOf bs bc bw fd) = foldT cs.L ls.L L (stepT cs.L ls.L (plOf bs bc bw fd) (ySets y) (yN y)):=rfl
    rw [hf] at h
    have keep:stepT cs.L ls.L (plOf bs bc bw fd) (ySets y) (yN y) = plOf bs bc bw fd → (G21_8 L [.i e.I,.l cs.L,.l ls.L,.i rv.I,.l bs.L,.l bc.L,.i bw.I,.b fd.B]).run = some rr:=fun hs=>by
     rw [hs] at h
     exact (need_yes ⟨hT,hY',hb1,hb2⟩).trans h
    have store:∀ r:List (List D) × Int,r.1.length ≤ 8 → stepT cs.L ls.L (plOf bs bc bw fd) (ySets y) (yN y) = ⟨true,ySets y,r.1,r.2⟩ → (G21_8 L [.i e.I,.l cs.L,.l ls.L,.i rv.I,.l (ySets y),.l r.1,.i r.2,.b true]).run = some rr:=fun r hr hs=>by
     rw [hs] at h
     exact (need_yes ⟨hT,hY',by simp only [L_l]; exact hr,by simp only [L_l]; omega⟩).trans h
    have key : ∃ ds',R21 [e,cs,ls,rv,bs,bc,bw,fd] y = some (.again ds',[]) ∧ (G21_8 L ds').run = some rr:=by
     generalize hcc:(!fd.B || decide ((setsF cs.L ls.L (ySets y) fd.B bw.I 0 (yN y).toNat [] 0 |> resF).2 < bw.I) || decide (yN y < bc.L.length)) = cc
     cases hq:setsF cs.L ls.L (ySets y) fd.B bw.I 0 (yN y).toNat [] 0 with
     | none=>
       have hs:stepT cs.L ls.L (plOf bs bc bw fd) (ySets y) (yN y) = plOf bs bc bw fd:=by
        unfold stepT
        rw [show setsF cs.L ls.L (ySets y) (plOf bs bc bw fd).fd (plOf bs bc bw fd).w 0 (yN y).toNat [] 0 = none from hq]
       refine ⟨_,?_,keep hs⟩
       have hne:ySets y ≠ []:=fun e0=>by
        rw [y5 e0] at hq
        cases hq
       have hpos:0 < (ySets y).length:=List.length_pos_iff.2 hne
       have ey:y = [.i 1,.i (ySets y).length,.i (yN y),.l (ySets y)]:=y4.trans (yE_cons hne)
       rw [ey]
       refine (t21_r e cs ls rv bs bc bw fd _ _ _).trans (go_yes ⟨by trivial,⟨hT,⟨by simp only [I_i,L_l,Int.toNat_natCast],by simp only [I_i,L_l,Int.toNat_natCast],y1⟩,y2,y3⟩,⟨rfl,⟨by omega,y2⟩,rfl,by omega,by omega⟩,by trivial⟩ ?_)
       have e0:setsF cs.L ls.L (D.l (ySets y)).L fd.B bw.I (Int.toNat 0) (Int.toNat ((D.i (yN y)).I - 0)) [] 0 = none:=by
        rw [show Int.toNat ((D.i (yN y)).I - 0) = (yN y).toNat by rw [Int.sub_zero]; rfl]
        exact hq
       rw [e0]
       rfl
     | some r =>
       obtain ⟨tl,r1,r2,-⟩:=sets_ok _ 0 [] 0 r rfl hq
       rw [List.nil_append] at r1
       have hr8:r.1.length ≤ 8:=by rw [r1,r2]; omega
       rw [hq] at hcc
       have hcc:(!fd.B || decide (r.2 < bw.I) || decide (yN y < bc.L.length)) = cc:=hcc
       have hst:stepT cs.L ls.L (plOf bs bc bw fd) (ySets y) (yN y) = if cc then ⟨true,ySets y,r.1,r.2⟩ else plOf bs bc bw fd:=by
        unfold stepT
        rw [show setsF cs.L ls.L (ySets y) (plOf bs bc bw fd).fd (plOf bs bc bw fd).w 0 (yN y).toNat [] 0 = some r from hq,← hcc]
        rfl
       by_cases e0:ySets y = []
       ·have en:=y5 e0
        have er:r = ([],0):=by rw [en] at hq; cases hq; rfl
        have ey:y = [.i 0,.i 0]:=by rw [y4,e0,en]; rfl
        have hR:∀ o,(roundRT C tab21n 21 (rangeOf C.P 21 8) 0 5 [3,4,6,7,8,9,29] h21_8 y84 [e,cs,ls,rv,bs,bc,bw,fd] [.i 0,.i 0]).run = o → R21 [e,cs,ls,rv,bs,bc,bw,fd] y = o:=fun o ho=>by rw [ey]; exact ho
        subst er
        cases hcv:cc with
        | true=>
          rw [hcv] at hst hcc
          refine ⟨_,?_,store ([],0) (by simp) hst⟩
          rw [e0]
          refine hR _ ((t21_rn e cs ls rv bs bc bw fd (.i 0)).trans (go_yes (Int.le_refl _) (go_ite (fun _=>rfl) fun c1=>go_if (fun _=>rfl) fun c2=>go_if (fun _=>rfl) fun c3=>?_)))
          exfalso
          rw [c1,decide_eq_false c2,Bool.false_or,Bool.false_or,decide_eq_true_iff,en] at hcc
          exact c3 hcc
        | false=>
          rw [hcv] at hst hcc
          refine ⟨_,?_,keep hst⟩
          rw [Bool.or_eq_false_iff,Bool.or_eq_false_iff,decide_eq_false_iff_not,decide_eq_false_iff_not,en] at hcc
          exact hR _ ((t21_rn e cs ls rv bs bc bw fd (.i 0)).trans (go_yes (Int.le_refl _) (go_false hcc.1.1 (go_neg hcc.1.2 (go_neg hcc.2 rfl)))))
       ·have hne:=e0
        have hpos:0 < (ySets y).length:=List.length_pos_iff.2 hne
        have ey:y = [.i 1,.i (ySets y).length,.i (yN y),.l (ySets y)]:=y4.trans (yE_cons hne)
        have es:setsF cs.L ls.L (D.l (ySets y)).L fd.B bw.I (Int.toNat 0) (Int.toNat ((D.i (yN y)).I - 0)) [] 0 = some r:=by
         rw [show Int.toNat ((D.i (yN y)).I - 0) = (yN y).toNat by rw [Int.sub_zero]; rfl]
         exact hq
        have et:∀ l:List (List D),l.take l.length = l:=fun l=>List.take_length
        have hR:∀ ds',T.run (T.ite (resF (some r)).1.isEmpty
            (T.ite (!fd.B) (T.leaf (Rd.again [.i e.I,.l cs.L,.l ls.L,.i rv.I,.l (ySets y),.l [],.i r.2,.b true],([]:List D))) (T.ite (decide (r.2 < bw.I)) (T.leaf (Rd.again [.i e.I,.l cs.L,.l ls.L,.i rv.I,.l (ySets y),.l [],.i r.2,.b true],[])) (T.ite (decide (yN y < bc.L.length)) (T.leaf (Rd.again [.i e.I,.l cs.L,.l ls.L,.i rv.I,.l (ySets y),.l [],.i r.2,.b true],[])) (T.leaf (Rd.again [.i e.I,.l cs.L,.l ls.L,.i rv.I,.l bs.L,.l bc.L,.i bw.I,.b fd.B],[])))))
            (T.ite (!fd.B) (T.leaf (Rd.again [.i e.I,.l cs.L,.l ls.L,.i rv.I,.l (ySets y),.l r.1,.i r.2,.b true],[])) (T.ite (decide (r.2 < bw.I)) (T.leaf (Rd.again [.i e.I,.l cs.L,.l ls.L,.i rv.I,.l (ySets y),.l r.1,.i r.2,.b true],[])) (T.ite (decide (yN y < bc.L.length)) (T.leaf (Rd.again [.i e.I,.l cs.L,.l ls.L,.i rv.I,.l (ySets y),.l r.1,.i r.2,.b true],[])) (T.leaf (Rd.again [.i e.I,.l cs.L,.l ls.L,.i rv.I,.l bs.L,.l bc.L,.i bw.I,.b fd.B],[]))))))
            = some (.again ds',[]) → R21 [e,cs,ls,rv,bs,bc,bw,fd] y = some (.again ds',[]):=fun ds' ho=>by
         rw [ey]
         refine (t21_r e cs ls rv bs bc bw fd _ _ _).trans (go_yes ⟨by trivial,⟨hT,⟨by simp only [I_i,L_l,Int.toNat_natCast],by simp only [I_i,L_l,Int.toNat_natCast],y1⟩,y2,y3⟩,⟨rfl,⟨by omega,y2⟩,rfl,by omega,by omega⟩,by trivial⟩ ?_)
         rw [es]
         refine Eq.trans ?_ ho
         rw [run_ite,if_pos (show (some r).isSome = true from rfl)]
         have d1:decide (Int.toNat (↑(Int.toNat (D.i ((ySets y).length:Int)).I):Int) ≤ (D.l (ySets y)).L.length) = true:=decide_eq_true (by simp only [I_i,L_l,Int.toNat_natCast]; exact Nat.le_refl _)
         have d2:decide (Int.toNat (↑((resF (some r)).1.length):Int) ≤ (resF (some r)).1.length) = true:=decide_eq_true (by simp only [Int.toNat_natCast]; exact Nat.le_refl _)
         have s1:(T.leaf (Rd.again [.i e.I,.l cs.L,.l ls.L,.i rv.I,.l (List.take (Int.toNat (↑(Int.toNat (D.i ((ySets y).length:Int)).I):Int)) (D.l (ySets y)).L),.l [],.i (resF (some r)).2,.b true],([]:List D))).run = (T.leaf (Rd.again [.i e.I,.l cs.L,.l ls.L,.i rv.I,.l (ySets y),.l [],.i r.2,.b true],([]:List D))).run:=by
          simp only [I_i,L_l,Int.toNat_natCast,et,resF_some]
         have s2:(T.leaf (Rd.again [.i e.I,.l cs.L,.l ls.L,.i rv.I,.l (List.take (Int.toNat (↑(Int.toNat (D.i ((ySets y).length:Int)).I):Int)) (D.l (ySets y)).L),.l (List.take (Int.toNat (↑((resF (some r)).1.length):Int)) (resF (some r)).1),.i (resF (some r)).2,.b true],([]:List D))).run = (T.leaf (Rd.again [.i e.I,.l cs.L,.l ls.L,.i rv.I,.l (ySets y),.l r.1,.i r.2,.b true],([]:List D))).run:=by
          simp only [I_i,L_l,Int.toNat_natCast,et,resF_some]
         exact ite_c rfl (ite_c rfl (need_c d1 s1) (ite_c rfl (need_c d1 s1) (ite_c rfl (need_c d1 s1) rfl))) (ite_c rfl (need_c d1 (need_c d2 s2)) (ite_c rfl (need_c d1 (need_c d2 s2)) (ite_c rfl (need_c d1 (need_c d2 s2)) rfl)))
        cases hcv:cc with
        | true=>
          rw [hcv] at hst hcc
          refine ⟨_,hR _ (go_ite (fun ce=>?_) fun ce=>?_),store r hr8 hst⟩
          ·have ce:r.1 = []:=List.isEmpty_iff.1 ce
           rw [ce]
           refine go_ite (fun _=>rfl) fun c1=>go_if (fun _=>rfl) fun c2=>go_if (fun _=>rfl) fun c3=>?_
           exfalso
           rw [c1,decide_eq_false c2,Bool.false_or,Bool.false_or,decide_eq_true_iff] at hcc
           exact c3 hcc
          ·refine go_ite (fun _=>rfl) fun c1=>go_if (fun _=>rfl) fun c2=>go_if (fun _=>rfl) fun c3=>?_
           exfalso
           rw [c1,decide_eq_false c2,Bool.false_or,Bool.false_or,decide_eq_true_iff] at hcc
           exact c3 hcc
        | false=>
          rw [hcv] at hst hcc
          rw [Bool.or_eq_false_iff,Bool.or_eq_false_iff,decide_eq_false_iff_not,decide_eq_false_iff_not] at hcc
          exact ⟨_,hR _ (go_ite (fun ce=>go_false hcc.1.1 (go_neg hcc.1.2 (go_neg hcc.2 rfl))) fun ce=>go_false hcc.1.1 (go_neg hcc.1.2 (go_neg hcc.2 rfl))),keep hst⟩
    obtain ⟨ds',k1,k2⟩:=key
    exact .again (x':=[]) (ds':=ds') k1 (fun h=>by cases h) (ih _ _ k2)
   ·cases h
theorem range21 (n:Nat) (hA:AllOK C n sp21) (hI:IterOK C n 84 y84 (mkFY s84 G84)):CodeSim C n 0 21 (rangeOf C.P 21 8).code none 0 (rangeS 0 [3,4,6,7,8,9,29] (rangeOf C.P 21 8).1 it21_8 h21_8 G21_8):=by
 have hS:∀ el,SpOK C (tabOf21 el) n:=fun el=>by
  unfold tabOf21
  split
  ·exact spOK_ofR hA trivial
  ·exact spOK_ofR hA trivial
 refine rangeS_okE hC (tab:=tab21) (tabOf:=tabOf21) hS yOK84 (fun ds el=>?_) (fun ds el=>?_) (by kernel_rfl) (by kernel_rfl) (it:=it21_8) ⟨hI,trivial⟩ (G:=G21_8) fold21
 ·rw [h21_len]
  unfold tabOf21
  split
  ·exact loops_ofG (lp:=lp21n) (rg:=rg21) rfl rfl [] [] (by kernel_rfl) rfl (fun k hk=>by cases hk) (by kernel_rfl) rfl (fun k hk=>by cases hk)
  ·exact loops_ofG (lp:=lp21) (rg:=rg21) rfl rfl [] [] (by kernel_rfl) rfl (fun k hk=>by cases hk) (by kernel_rfl) rfl (fun k hk=>by cases hk)
 ·rw [h21_len]
  unfold tabOf21
  cases hz:((el.headD default).I == 0) with
  | true=>
    have e:(y84.head el).2.length = 0:=by
     show (match (el.headD default).I == 0 with
      | true=>(([SV.nils,.int .i64 (el.getD 1 default).I],[]):List SV × SHeap)
      | false=>((headVs [.sl 0 1,.k (.int .i64)] el.tail).1,(headH [.row [.int .i64]] (headVs [.sl 0 1,.k (.int .i64)] el.tail).2).1)).2.length = 0
     rw [hz]
     rfl
    rw [e]
    exact loops_ofG (lp:=lp21n) (rg:=rg21) rfl rfl [10] [] (by kernel_rfl) (by kernel_rfl) (fun k hk L hL=>by simp at hk; subst hk; cases hL; exact ok21_10n n hA) (by kernel_rfl) rfl (fun k hk=>by cases hk)
  | false=>
    have e:(y84.head el).2.length = 1:=by
     show (match (el.headD default).I == 0 with
      | true=>(([SV.nils,.int .i64 (el.getD 1 default).I],[]):List SV × SHeap)
      | false=>((headVs [.sl 0 1,.k (.int .i64)] el.tail).1,(headH [.row [.int .i64]] (headVs [.sl 0 1,.k (.int .i64)] el.tail).2).1)).2.length = 1
     rw [hz]
     rfl
    rw [e]
    exact loops_ofG (lp:=lp21) (rg:=rg21) rfl rfl [10] [] (by kernel_rfl) (by kernel_rfl) (fun k hk L hL=>by simp at hk; subst hk; cases hL; exact ok21_10 n hA) (by kernel_rfl) rfl (fun k hk=>by cases hk)
theorem use_E {A:Int}:∀ (k:Nat) (cs:List (List D)) (n:Int) (y:List D),y ∈ useF A k cs n → y = yE (ySets y) (yN y)
 | 0, cs,n,y,h=>by
   simp only [useF,List.mem_singleton] at h
   subst h
   obtain ⟨e1,e2⟩:=ySets_E cs n
   rw [e1,e2]
 | k + 1,cs,n,y,h=>by
   simp only [useF] at h
   rw [useW_mem] at h
   obtain ⟨v,-,-,h⟩:=h
   exact use_E k _ _ y h
theorem use_okY {A:Int} {ls:List (List D)} (h1:1 ≤ A) (h8:A ≤ 8):∀ y ∈ useF A ls.length [] 0,okYd ls y:=fun y hy=>by
 obtain ⟨tl,e1,e2,e3,e4⟩:=use_sound ls.length [] 0 y (Int.le_refl _) (by omega) hy
 rw [List.nil_append] at e1
 refine ⟨by rw [e1,e2],⟨e3.1,by omega⟩,use_E _ _ _ y hy,fun e0=>?_⟩
 rw [e0] at e1
 rw [← e1] at e2
 rw [← e2] at e4
 have:=congrArg Prod.fst e4
 exact this.symm
theorem ok21 (n:Nat):FnOKW C (n + 13) 21 (mkFW s21 G21):=by
 have hA:AllOK C (n + 12) sp21:=⟨ok52 (n + 2),ok53 (n + 11),ok54 (n + 7),ok55 (n + 10),trivial⟩
 refine fn_ofRW hC (sp:=sp21) (lp:=lp21) (sw:=sw21) (rg:=rg21) hA trivial (by kernel_rfl) [] [8] (by kernel_rfl) rfl (by kernel_rfl) (by kernel_rfl) (fun k hk=>by cases hk) (fun k hk L hL=>by simp at hk; subst hk; cases hL; exact range21 (n + 12) hA (ok84 n)) fun ds rr h=>?_
 unfold G21 at h
 split at h
 ·rename_i cs ls m
  obtain ⟨hp,h⟩:=need_some h
  rw [yes_iff] at hp
  refine (t21 cs ls m).trans (go_yes hp (go_not (fun c=>?_) fun c=>?_))
  ·rw [c] at h
   exact h
  ·rw [c] at h
   have c':=c
   simp only [taskOk,Bool.and_eq_true,Lite.within_iff,decide_eq_true_iff] at c'
   have hl8:ls.L.length ≤ 8:=c'.1.1.1.2
   have hm:1 ≤ m.I ∧ m.I ≤ 8:=c'.1.1.2
   refine go_yes ⟨by omega,hm.1,hm.2⟩ (go_yes ⟨⟨_,c⟩,use_okY hm.1 hm.2,by simp,by simp⟩ (go_not (fun c2=>?_) fun c2=>?_))
   ·have c2:(tyreF cs.L ls.L m.I).fd = false:=c2
    rw [run_ite,if_pos rfl,c2] at h
    exact h
   ·have c2:(tyreF cs.L ls.L m.I).fd = true:=c2
    rw [run_ite,if_pos rfl,c2] at h
    exact h
 ·cases h
end Go.Proofs.Ytlofnkkokcihnaa
