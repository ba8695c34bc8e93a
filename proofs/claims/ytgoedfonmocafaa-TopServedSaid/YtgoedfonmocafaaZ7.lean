/-
 What the claim top_served rests on, part 7.
-/
import Derived.Test.YtgoedfonmocafaaZ6
namespace Go.Proofs.Ytgoedfonmocafaa
open Go.Lite
noncomputable section
def rD (l : List (List D)) (i : Nat) : List D := ((l.getD i []).getD 0 default).L.getD 0 []
def closO (c : Int) (w : List (List D)) (j : Nat) (o : List (List D)) : List (List D) :=
 if o.isEmpty then [lk3 0 ((j : Int) + 1) (ix (w.getD j []) 1)] else [lk3 0 ((j : Int) + 1) (ix (w.getD j []) 1 + ix (o.getD 0 []) 0), lk3 ((j : Int) + 1) 0 (busyF c (w.getD j []) - ix (o.getD 0 []) 1)]
def ruleL (c : Int) (w : List (List D)) (x : List D) : List (List D) := if ix x 0 = 0 then [lk3 0 1 (ix x 1)] else if ix x 0 = 1 then afterL c w (ix x 1 - 1).toNat else closO c w (ix x 1).toNat (lx x 2)
def ruleK (c : Int) (w : List (List D)) (x : List D) : Bool := decide (ix x 0 = 2 → (lx x 2).isEmpty = false → ix (w.getD (ix x 1).toNat []) 1 + busyF c (w.getD (ix x 1).toNat []) ≤ ix ((lx x 2).getD 0 []) 2)
def ruleV (w : List (List D)) (x : List D) : Prop := ix x 0 = 0 ∨ (ix x 0 = 1 ∧ 1 ≤ ix x 1 ∧ ix x 1 ≤ w.length) ∨ (ix x 0 = 2 ∧ (0 ≤ ix x 1 ∧ ix x 1 < w.length) ∧ winOk (lx x 2))
def linksU (c : Int) (w l : List (List D)) : Nat → Nat → List (List D)
 | _, 0 => []
 | i, k + 1 => ruleL c w (rD l i) ++ linksU c w l (i + 1) k
def rulesV (w l : List (List D)) : Prop := l.length ≤ 200 ∧ ∀ j, j < l.length → ruleV w (rD l j)
def rulesK (c : Int) (w l : List (List D)) (j : Nat) : Bool := ruleK c w (rD l j)
def G71_4 (ds : List D) : T (Ex × List D) := match ds with
 | [h, n, m, i, c, f, w, ok, nn, l] => .need (yes (h.I = 0 ∧ planB c.I f.I w.L = true ∧ rulesV w.L l.L ∧ n.I = l.L.length ∧ m.I = l.L.length ∧ i.I = 0 ∧ 0 < l.L.length))
     (.ite (allFrom (rulesK c.I w.L l.L) 0 l.L.length) (.leaf (.exit 0, [.i 1, .i c.I, .i f.I, .l w.L, .b ok.B, .i nn.I, .i (linksU c.I w.L l.L 0 l.L.length).length, .l (linksU c.I w.L l.L 0 l.L.length)])) (.leaf (.pan 204, [.i c.I, .i f.I, .l w.L, .b ok.B])))
 | [h, n, m, i, c, f, w, ok, nn, ll, l, k] => .need (yes (h.I = 1 ∧ planB c.I f.I w.L = true ∧ rulesV w.L l.L ∧ n.I = l.L.length ∧ m.I = l.L.length ∧ 0 ≤ i.I ∧ i.I ≤ l.L.length ∧ ll.I = k.L.length ∧ k.L.length ≤ 2 * i.I))
     (.ite (allFrom (rulesK c.I w.L l.L) i.I.toNat (l.L.length - i.I.toNat)) (.leaf (.exit 0, [.i 1, .i c.I, .i f.I, .l w.L, .b ok.B, .i nn.I, .i (k.L ++ linksU c.I w.L l.L i.I.toNat (l.L.length - i.I.toNat)).length, .l (k.L ++ linksU c.I w.L l.L i.I.toNat (l.L.length - i.I.toNat))])) (.leaf (.pan 204, [.i c.I, .i f.I, .l w.L, .b ok.B])))
 | _ => .fail
def G71_9 (ds : List D) : T (Ex × List D) := match ds with
 | [h, m, i, c, f, w, ok, nn, ll, k] => .need (yes (h.I = 1 ∧ 0 ≤ i.I ∧ i.I ≤ m.I ∧ m.I ≤ 500 ∧ ll.I = k.L.length ∧ k.L.length + (m.I - i.I) ≤ 5500))
     (.leaf (.exit 2, [.i 1, .i c.I, .i f.I, .l w.L, .b ok.B, .i nn.I, .i (k.L ++ extraF i.I.toNat (m.I - i.I).toNat).length, .l (k.L ++ extraF i.I.toNat (m.I - i.I).toNat)]))
 | _ => .fail
def G71 (ds : List D) : T (List D) := match ds with
 | [c, f, w, ch] => .need (yes (planB c.I f.I w.L = true ∧ chOK w.L ch.L))
     (.ite (duesOk c.I f.I w.L ch.L) (.leaf [.i 1, .i 1, .i (w.L.length + 1 : Nat), .b true, .l (pushP true c.I f.I w.L ch.L).1]) (.leaf [.i 0, .b false]))
 | _ => .fail
def rowF (g : Nat → Int) : Nat → Nat → List (List D)
 | _, 0 => []
 | i, k + 1 => [.i (g i)] :: rowF g (i + 1) k
def clG (w : List (List D)) (du : Nat → Int) (j : Nat) : Int := du j - ix (w.getD j []) 1
def opG (c : Int) (w : List (List D)) (du : Nat → Int) (j : Nat) : Int := du j + busyF c (w.getD j [])
def duF (du : List (List D)) (j : Nat) : Int := rg du (j + 1)
def duOK (w du : List (List D)) : Prop := du.length = w.length + 2 ∧ ∀ j, 0 ≤ rg du j ∧ rg du j ≤ 2000000000
def G72 (ds : List D) : T (List D) := match ds with
 | [c, f, w, ch, lo, n, du] => .need (yes (planB c.I f.I w.L = true ∧ ch.L.length = w.L.length ∧ lo.I = 1 ∧ n.I = w.L.length + 1 ∧ duOK w.L du.L))
     (.leaf [.i 1, .i (w.L.length + 1 : Nat), .i w.L.length, .i w.L.length, .i ch.L.length, .l du.L, .l (rowF (clG w.L (duF du.L)) 0 w.L.length), .l (rowF (opG c.I w.L (duF du.L)) 0 w.L.length), .l ch.L])
 | _ => .fail
def G72_3 (ds : List D) : T (Ex × List D) := match ds with
 | [h, lo, n, w', m, i, du, c, f, w, lo2, n2, n3, ch] => .need (yes (h.I = 0 ∧ planB c.I f.I w.L = true ∧ lo.I = 1 ∧ n.I = w.L.length + 1 ∧ w'.L = w.L ∧ m.I = w.L.length ∧ i.I = 0 ∧ duOK w.L du.L ∧ lo2.I = 1 ∧ n2.I = w.L.length + 1 ∧ n3.I = ch.L.length))
     (.leaf (.exit 0, [.l du.L, .i 1, .i (w.L.length + 1 : Nat), .i w.L.length, .i w.L.length, .i ch.L.length, .l (rowF (clG w.L (duF du.L)) 0 w.L.length), .l (rowF (opG c.I w.L (duF du.L)) 0 w.L.length), .l ch.L]))
 | [h, lo, n, w', m, i, du, c, f, w, lo2, n2, n4, n5, n3, cl, op, ch] => .need (yes (h.I = 1 ∧ planB c.I f.I w.L = true ∧ lo.I = 1 ∧ n.I = w.L.length + 1 ∧ w'.L = w.L ∧ m.I = w.L.length ∧ (0 ≤ i.I ∧ i.I ≤ w.L.length) ∧ duOK w.L du.L ∧ lo2.I = 1 ∧ n2.I = w.L.length + 1 ∧ n3.I = ch.L.length ∧
       n4.I = i.I ∧ n5.I = i.I ∧ cl.L = rowF (clG w.L (duF du.L)) 0 i.I.toNat ∧ op.L = rowF (opG c.I w.L (duF du.L)) 0 i.I.toNat))
     (.leaf (.exit 0, [.l du.L, .i 1, .i (w.L.length + 1 : Nat), .i w.L.length, .i w.L.length, .i ch.L.length, .l (rowF (clG w.L (duF du.L)) 0 w.L.length), .l (rowF (opG c.I w.L (duF du.L)) 0 w.L.length), .l ch.L]))
 | _ => .fail
end
def s70 : SigW := ⟨[.agg [.k (.int .i64), .k (.int .i64), .k (.ro [.int .i64, .int .i64, .int .i64, .int .i64, .bool, .int .i64, .int .i64, .ro [.int .i64, .int .i64, .int .i64]])]], [], [(.fn 111 [] [.ptr 0 3 0 0], [.box [.k (.int .i64), .k (.int .i64), .k (.ro [.int .i64, .int .i64, .int .i64, .int .i64, .bool, .int .i64, .int .i64, .ro [.int .i64, .int .i64, .int .i64]])]])]⟩
def s111 : SigI := ⟨[.yl, .ptr 0 3 0 0], [.box [.k (.int .i64), .k (.int .i64), .k (.ro [.int .i64, .int .i64, .int .i64, .int .i64, .bool, .int .i64, .int .i64, .ro [.int .i64, .int .i64, .int .i64]])]]⟩
def y111 : YS := mkY [.sl 0 1] [.row [.int .i64]] true
def l111_2 : LSig := mkLS [0, 1, 3, 12, 13, 14] [(69, [(0, .yl), (1, .ptr 0 3 0 0), (3, .sl 1 1), (12, .k (.ro [.int .i64, .int .i64, .int .i64, .int .i64, .bool, .int .i64, .int .i64, .ro [.int .i64, .int .i64, .int .i64]])), (13, .k (.int .i64)), (14, .k (.int .i64))], [.box [.k (.int .i64), .k (.int .i64), .k (.ro [.int .i64, .int .i64, .int .i64, .int .i64, .bool, .int .i64, .int .i64, .ro [.int .i64, .int .i64, .int .i64]])], .row [.int .i64]])] [(.exit 0, [0, 1, 3], [(69, [(0, .yl), (1, .ptr 0 3 0 0), (3, .sl 1 1)], [.box [.k (.int .i64), .k (.int .i64), .k (.ro [.int .i64, .int .i64, .int .i64, .int .i64, .bool, .int .i64, .int .i64, .ro [.int .i64, .int .i64, .int .i64]])], .row [.int .i64]])])]
def l111_7 : LSig := mkLS [0, 1, 3] [(69, [(0, .yl), (1, .ptr 0 3 0 0), (3, .sl 1 1)], [.box [.k (.int .i64), .k (.int .i64), .k (.ro [.int .i64, .int .i64, .int .i64, .int .i64, .bool, .int .i64, .int .i64, .ro [.int .i64, .int .i64, .int .i64]])], .row [.int .i64]])] [(.ret, [], [(69, [], [.box [.k (.int .i64), .k (.int .i64), .k (.ro [.int .i64, .int .i64, .int .i64, .int .i64, .bool, .int .i64, .int .i64, .ro [.int .i64, .int .i64, .int .i64]])]])])]
def l111_9 : LSig := mkLS [0, 1, 3, 6] [(69, [(0, .yl), (1, .ptr 0 3 0 0), (3, .sl 1 1), (6, .k (.int .i64))], [.box [.k (.int .i64), .k (.int .i64), .k (.ro [.int .i64, .int .i64, .int .i64, .int .i64, .bool, .int .i64, .int .i64, .ro [.int .i64, .int .i64, .int .i64]])], .row [.int .i64]])] [(.exit 4, [0, 1, 3, 6], [(69, [(0, .yl), (1, .ptr 0 3 0 0), (3, .sl 1 1), (6, .k (.int .i64))], [.box [.k (.int .i64), .k (.int .i64), .k (.ro [.int .i64, .int .i64, .int .i64, .int .i64, .bool, .int .i64, .int .i64, .ro [.int .i64, .int .i64, .int .i64]])], .row [.int .i64]])])]
noncomputable section
def lenN (x : D) : D := .i (x.I.toNat : Nat)
def zerR (n : Nat) : List (List D) := List.replicate n [.i 0]
def clR (c f : Int) (w ch : List (List D)) : List (List D) := rowF (clG w (rg (dueL c f w ch))) 0 w.length
def opR (c f : Int) (w ch : List (List D)) : List (List D) := rowF (opG c w (rg (dueL c f w ch))) 0 w.length
def hoursN (w : List (List D)) (j : Nat) : Int := (lx (w.getD j []) 7).length
def zeroC (w : List (List D)) (j : Nat) : Int := if hoursN w j = 0 then -1 else 0
def firstC (w : List (List D)) : List (List D) := rowF (zeroC w) 0 w.length
def carryF (w : List (List D)) : Nat → List (List D) → List (List D) × Int
 | 0, ch => (ch, -1)
 | k + 1, ch => if rg ch k + 1 ≥ hoursN w k then carryF w k (rs ch k (zeroC w k)) else (ch, k)
def stepC (x : List (List D) × Int) : List (List D) := rs x.1 x.2.toNat (rg x.1 x.2.toNat + 1)
def allC (w : List (List D)) : Nat → List (List D) → List (List D)
 | 0, _ => []
 | n + 1, ch => [.i ch.length, .l ch] :: (if (carryF w w.length ch).2 < 0 then [] else allC w n (stepC (carryF w w.length ch)))
def makeF (c f : Int) (w : List (List D)) : Nat → List (List D) → Int × List (List D)
 | 0, ch => (9, ch)
 | n + 1, ch => if duesOk c f w ch then (0, ch) else if (carryF w w.length ch).2 < 0 then (5, ch) else makeF c f w n (stepC (carryF w w.length ch))
def triesN : Nat := 20000
def foundC (c f : Int) (w : List (List D)) : Int × List (List D) := makeF c f w triesN (firstC w)
def prodF (w : List (List D)) : Nat → Nat
 | 0 => 1
 | k + 1 => prodF w k * (max 1 (hoursN w k)).toNat
def fewC (w : List (List D)) : Prop := prodF w w.length ≤ 1000000000000
def carOK (w ch : List (List D)) : Prop := chOK w ch ∧ canon ch
def G70 (ds : List D) : T (List D) := match ds with
 | [c, f, w] => .leaf [.i c.I, .i f.I, .l w.L]
 | _ => .fail
def G111 (ds : List D) : T (List (List D)) := match ds with
 | [c, f, w] => .need (yes (planB c.I f.I w.L = true ∧ fewC w.L)) (.leaf (allC w.L (prodF w.L w.L.length) (firstC w.L)))
 | _ => .fail
def G111_2 (_ : Nat) (ds : List D) : T (Ex × List D) := match ds with
 | [g, n, w', m, i, c, f, w, ch] => .need (yes (planB c.I f.I w.L = true ∧ w'.L = w.L ∧ m.I = w.L.length ∧ n.I = w.L.length ∧ (0 ≤ i.I ∧ i.I ≤ m.I) ∧ ch.L = rowF (zeroC w.L) 0 i.I.toNat ++ zerR (w.L.length - i.I.toNat)))
     (.leaf (.exit 0, [.l g.L, lenN n, .i c.I, .i f.I, .l w.L, .l (firstC w.L)]))
 | _ => .fail
def valC (w ch : List (List D)) : Nat → Nat
 | 0 => 0
 | k + 1 => valC w ch k * (max 1 (hoursN w k)).toNat + (max 0 (rg ch k)).toNat
def restC (w ch : List (List D)) : Nat := prodF w w.length - valC w ch w.length
def G111_7 (q : Nat) (ds : List D) : T (Ex × List D) := match ds with
 | [g, n, c, f, w, ch] => .need (yes (planB c.I f.I w.L = true ∧ fewC w.L ∧ n.I = w.L.length ∧ carOK w.L ch.L ∧ g.L.length ≤ q))
     (.leaf (.ret, [.l (g.L ++ (allC w.L (restC w.L ch.L) ch.L).take (q + 1 - g.L.length)), .i c.I, .i f.I, .l w.L]))
 | _ => .fail
def G111_9 (_ : Nat) (ds : List D) : T (Ex × List D) := match ds with
 | [g, n, j, c, f, w, ch] => .need (yes (planB c.I f.I w.L = true ∧ n.I = w.L.length ∧ carOK w.L ch.L ∧ -1 ≤ j.I ∧ j.I < w.L.length))
     (.leaf (.exit 4, [.l g.L, lenN n, .i (carryF w.L (j.I + 1).toNat ch.L).2, .i c.I, .i f.I, .l w.L, .l (carryF w.L (j.I + 1).toNat ch.L).1]))
 | _ => .fail
end
def s26 : Sig := ⟨[.agg [.k (.int .i64), .k (.int .i64), .k (.ro [.int .i64, .int .i64, .int .i64, .int .i64, .bool, .int .i64, .int .i64, .ro [.int .i64, .int .i64, .int .i64]])]], [(.tup [.agg [.nils, .nils, .nils, .nils], .k (.int .i64)], []), (.tup [.agg [.sub 0 1, .sl 1 1, .sl 2 1, .sl 3 1], .k (.int .i64)], [.row [.int .i64], .row [.int .i64], .row [.int .i64], .row [.int .i64]])]⟩
def h26_7 : List Shp := [mkShp (35, [(1, .ptr 0 3 0 0), (2, .ptr 1 4 0 0), (3, .ptr 2 1 0 0), (5, .ptr 3 1 0 0), (16, .fn 111 [] [.any])], [.box [.k (.int .i64), .k (.int .i64), .k (.ro [.int .i64, .int .i64, .int .i64, .int .i64, .bool, .int .i64, .int .i64, .ro [.int .i64, .int .i64, .int .i64]])], .box [.nils, .nils, .nils, .nils], .box [.k (.int .i64)], .box [.k (.int .i64)]]), mkShp (35, [(1, .ptr 0 3 0 0), (2, .ptr 1 4 0 0), (3, .ptr 2 1 0 0), (5, .ptr 3 1 0 0), (16, .fn 111 [] [.any])], [.box [.k (.int .i64), .k (.int .i64), .k (.ro [.int .i64, .int .i64, .int .i64, .int .i64, .bool, .int .i64, .int .i64, .ro [.int .i64, .int .i64, .int .i64]])], .box [.sub 4 1, .sl 5 1, .sl 6 1, .sl 7 1], .box [.k (.int .i64)], .box [.k (.int .i64)], .row [.int .i64], .row [.int .i64], .row [.int .i64], .row [.int .i64]])]
def s139 : Sig := ⟨[.k (.int .i64)], [(.k .bool, [])]⟩
def s116 : Sig := ⟨[.k (.int .i64), .k (.int .i64)], [(.k (.int .i64), [])]⟩
def s75 : Sig := ⟨[.k (.ro [.int .i64]), .k (.ro [.int .i64])], [(.k (.int .i64), [])]⟩
def l75_2 : LSig := mkLS [0, 1, 9, 10, 11] [(36, [(0, .k (.ro [.int .i64])), (1, .k (.ro [.int .i64])), (9, .k (.ro [.int .i64])), (10, .k (.int .i64)), (11, .k (.int .i64))], [])] [(.ret, [4], [(36, [(4, .k (.int .i64))], [])]), (.exit 0, [0, 1], [(36, [(0, .k (.ro [.int .i64])), (1, .k (.ro [.int .i64]))], [])])]
def s76 : Sig := ⟨[.k (.int .u64)], [(.nils, []), (.sl 0 1, [.row [.int .i64]])]⟩
def l76_3 : LSig := mkLS [0, 3, 4] [(21, [(0, .k (.int .u64)), (3, .nils), (4, .k (.int .i64))], []), (21, [(0, .k (.int .u64)), (3, .sl 0 1), (4, .k (.int .i64))], [.row [.int .i64]])] [(.exit 0, [3], [(21, [(3, .nils)], []), (21, [(3, .sl 0 1)], [.row [.int .i64]])])]
def s74 : Sig := ⟨[.agg [.k (.int .u64), .k (.int .i64), .k (.int .i64)], .agg [.k (.int .u64), .k (.int .i64), .k (.int .i64)]], [(.k .bool, [])]⟩
def s77 : Sig := ⟨[.k (.ro [.int .i64, .int .i64, .bool, .ro [.int .i64]]), .k (.int .i64), .k (.int .u64)], [(.tup [.k (.int .i64), .k (.int .i64), .k .bool], [])]⟩
def l77_3 : LSig := mkLS [1, 2, 9, 10, 15, 16, 17] [(56, [(1, .k (.int .i64)), (2, .k (.int .u64)), (9, .k (.int .i64)), (10, .k (.int .i64)), (15, .k (.ro [.int .i64, .int .i64, .bool, .ro [.int .i64]])), (16, .k (.int .i64)), (17, .k (.int .i64))], [])] [(.ret, [6, 7, 8], [(56, [(6, .k (.int .i64)), (7, .k (.int .i64)), (8, .k .bool)], [])]), (.exit 0, [1, 9, 10], [(56, [(1, .k (.int .i64)), (9, .k (.int .i64)), (10, .k (.int .i64))], [])])]
def l77_9 : LSig := mkLS [1, 2, 9, 10, 12, 15, 16, 17, 30, 31, 32] [(56, [(1, .k (.int .i64)), (2, .k (.int .u64)), (9, .k (.int .i64)), (10, .k (.int .i64)), (12, .ptr 0 4 0 0), (15, .k (.ro [.int .i64, .int .i64, .bool, .ro [.int .i64]])), (16, .k (.int .i64)), (17, .k (.int .i64)), (30, .k (.ro [.int .i64])), (31, .k (.int .i64)), (32, .k (.int .i64))], [.box [.k (.int .i64), .k (.int .i64), .k .bool, .k (.ro [.int .i64])]])] [(.ret, [6, 7, 8], [(56, [(6, .k (.int .i64)), (7, .k (.int .i64)), (8, .k .bool)], [])]), (.exit 2, [1, 2, 9, 10, 12, 15, 16, 17], [(56, [(1, .k (.int .i64)), (2, .k (.int .u64)), (9, .k (.int .i64)), (10, .k (.int .i64)), (12, .ptr 0 4 0 0), (15, .k (.ro [.int .i64, .int .i64, .bool, .ro [.int .i64]])), (16, .k (.int .i64)), (17, .k (.int .i64))], [.box [.k (.int .i64), .k (.int .i64), .k .bool, .k (.ro [.int .i64])]])])]
def s78 : Sig := ⟨[.k (.ro [.int .u64, .int .i64, .int .i64]), .fn 74 [] []], [(.agg [.k (.int .u64), .k (.int .i64), .k (.int .i64)], [])]⟩
def l78_3 : LSig := mkLS [1, 4, 5, 12, 13, 14] [(25, [(1, .fn 74 [] []), (4, .ptr 0 3 0 0), (5, .ptr 1 3 0 0), (12, .k (.ro [.int .u64, .int .i64, .int .i64])), (13, .k (.int .i64)), (14, .k (.int .i64))], [.box [.k (.int .u64), .k (.int .i64), .k (.int .i64)], .box [.k (.int .u64), .k (.int .i64), .k (.int .i64)]])] [(.exit 0, [4, 5], [(25, [(4, .ptr 0 3 0 0), (5, .ptr 1 3 0 0)], [.box [.k (.int .u64), .k (.int .i64), .k (.int .i64)], .box [.k (.int .u64), .k (.int .i64), .k (.int .i64)]])])]
def s73 : Sig := ⟨[.k (.ro [.int .i64, .int .i64, .bool, .ro [.int .i64]])], [(.k .bool, [])]⟩
def l73_2 : LSig := mkLS [0, 7, 8, 9] [(56, [(0, .k (.ro [.int .i64, .int .i64, .bool, .ro [.int .i64]])), (7, .k (.ro [.int .i64, .int .i64, .bool, .ro [.int .i64]])), (8, .k (.int .i64)), (9, .k (.int .i64))], [])] [(.ret, [2], [(56, [(2, .k .bool)], [])]), (.exit 0, [0], [(56, [(0, .k (.ro [.int .i64, .int .i64, .bool, .ro [.int .i64]]))], [])])]
def l73_7 : LSig := mkLS [0, 3, 4, 7, 8, 9, 25, 26, 27] [(56, [(0, .k (.ro [.int .i64, .int .i64, .bool, .ro [.int .i64]])), (3, .k (.int .i64)), (4, .ptr 0 4 0 0), (7, .k (.ro [.int .i64, .int .i64, .bool, .ro [.int .i64]])), (8, .k (.int .i64)), (9, .k (.int .i64)), (25, .k (.ro [.int .i64])), (26, .k (.int .i64)), (27, .k (.int .i64))], [.box [.k (.int .i64), .k (.int .i64), .k .bool, .k (.ro [.int .i64])]])] [(.ret, [2], [(56, [(2, .k .bool)], [])]), (.exit 2, [0, 7, 8, 9], [(56, [(0, .k (.ro [.int .i64, .int .i64, .bool, .ro [.int .i64]])), (7, .k (.ro [.int .i64, .int .i64, .bool, .ro [.int .i64]])), (8, .k (.int .i64)), (9, .k (.int .i64))], [])])]
def s27 : Sig := ⟨[.k (.ro [.int .i64, .int .i64, .bool, .ro [.int .i64]]), .k (.int .i64)], [(.k .bool, [])]⟩
def l27_4 : LSig := mkLS [0, 5] [(83, [(0, .k (.ro [.int .i64, .int .i64, .bool, .ro [.int .i64]])), (5, .k (.int .i64))], [])] [(.ret, [4], [(83, [(4, .k .bool)], [])]), (.exit 0, [], [(83, [], [])])]
def l27_9 : LSig := mkLS [0, 5, 6] [(83, [(0, .k (.ro [.int .i64, .int .i64, .bool, .ro [.int .i64]])), (5, .k (.int .i64)), (6, .k (.int .i64))], [])] [(.ret, [4], [(83, [(4, .k .bool)], [])]), (.exit 2, [0, 5], [(83, [(0, .k (.ro [.int .i64, .int .i64, .bool, .ro [.int .i64]])), (5, .k (.int .i64))], [])])]
def s31 : Sig := ⟨[.k (.int .i64), .k (.int .i64), .k (.int .i64), .k (.ro [.int .i64, .int .i64, .int .i64]), .k (.ro [.int .i64])], [(.k .bool, [])]⟩
def l31_4 : LSig := mkLS [0, 1, 2, 3, 4, 26, 27, 28] [(48, [(0, .k (.int .i64)), (1, .k (.int .i64)), (2, .k (.int .i64)), (3, .k (.ro [.int .i64, .int .i64, .int .i64])), (4, .k (.ro [.int .i64])), (26, .k (.ro [.int .i64])), (27, .k (.int .i64)), (28, .k (.int .i64))], [])] [(.ret, [10], [(48, [(10, .k .bool)], [])]), (.exit 0, [0, 1, 2, 3, 4], [(48, [(0, .k (.int .i64)), (1, .k (.int .i64)), (2, .k (.int .i64)), (3, .k (.ro [.int .i64, .int .i64, .int .i64])), (4, .k (.ro [.int .i64]))], [])])]
def s28 : Sig := ⟨[.k (.ro [.int .i64, .int .i64, .bool, .ro [.int .i64]]), .k (.int .i64)], [(.tup [.k (.ro [.int .i64]), .k (.int .i64)], [])]⟩
def l28_6 : LSig := mkLS [0, 1, 6, 7, 22, 23] [(54, [(0, .k (.ro [.int .i64, .int .i64, .bool, .ro [.int .i64]])), (1, .k (.int .i64)), (6, .fn 74 [] []), (7, .nils), (22, .k (.int .u64)), (23, .k (.int .u64))], []), (54, [(0, .k (.ro [.int .i64, .int .i64, .bool, .ro [.int .i64]])), (1, .k (.int .i64)), (6, .fn 74 [] []), (7, .sl 0 3), (22, .k (.int .u64)), (23, .k (.int .u64))], [.row [.int .u64, .int .i64, .int .i64]])] [(.exit 0, [7], [(54, [(7, .nils)], []), (54, [(7, .sl 0 3)], [.row [.int .u64, .int .i64, .int .i64]])])]
def s29 : Sig := ⟨[.k (.ro [.int .i64, .int .i64, .bool, .ro [.int .i64]]), .k (.int .i64), .k (.ro [.int .i64])], [(.tup [.k (.int .i64), .k (.int .i64), .k (.int .i64)], [])]⟩
def l29_5 : LSig := mkLS [0, 1, 2, 9, 23, 24, 25] [(66, [(0, .k (.ro [.int .i64, .int .i64, .bool, .ro [.int .i64]])), (1, .k (.int .i64)), (2, .k (.ro [.int .i64])), (9, .k (.int .u64)), (23, .k (.ro [.int .i64])), (24, .k (.int .i64)), (25, .k (.int .i64))], [])] [(.ret, [6, 7, 8], [(66, [(6, .k (.int .i64)), (7, .k (.int .i64)), (8, .k (.int .i64))], [])]), (.exit 0, [0, 1, 9], [(66, [(0, .k (.ro [.int .i64, .int .i64, .bool, .ro [.int .i64]])), (1, .k (.int .i64)), (9, .k (.int .u64))], [])])]
def s24 : Sig := ⟨[.agg [.k (.int .i64), .k (.int .i64), .k (.ro [.int .i64, .int .i64, .int .i64, .int .i64, .bool, .int .i64, .int .i64, .ro [.int .i64, .int .i64, .int .i64]])]], [(.k .bool, [])]⟩
def l24_4 : LSig := mkLS [1, 3] [(25, [(1, .ptr 0 3 0 0), (3, .k (.int .i64))], [.box [.k (.int .i64), .k (.int .i64), .k (.ro [.int .i64, .int .i64, .int .i64, .int .i64, .bool, .int .i64, .int .i64, .ro [.int .i64, .int .i64, .int .i64]])]])] [(.ret, [2], [(25, [(2, .k .bool)], [])]), (.exit 0, [1], [(25, [(1, .ptr 0 3 0 0)], [.box [.k (.int .i64), .k (.int .i64), .k (.ro [.int .i64, .int .i64, .int .i64, .int .i64, .bool, .int .i64, .int .i64, .ro [.int .i64, .int .i64, .int .i64]])]])])]
def s25 : Sig := ⟨[], [(.k .bool, [])]⟩
noncomputable section
def legP (a b c : Int) : Bool := within a 0 b && decide (b ≤ 1000000) && within c 0 1000000
def legOk (c : List D) : Bool := legP (ix c 0) (ix c 1) (ix c 2)
def legAt (l : List (List D)) (j : Nat) : Bool := legOk (l.getD j [])
def tankOk (t r s : Int) (l : List (List D)) : Bool := within t 1 1000000 && within r 0 t && within s 0 t && decide (l.length ≤ 50) && allFrom (legAt l) 0 l.length
def amOk (l am : List (List D)) (j : Nat) : Bool := within (ix (am.getD j []) 0) 0 (ix (l.getD j []) 2)
def safeFrom (t r : Int) (l am : List (List D)) : Nat → Nat → Int → Int → Bool
 | _, 0, _, _ => true
 | i, k + 1, lo, hi => if hi + ix (am.getD i []) 0 > t then false else if lo + ix (am.getD i []) 0 - ix (l.getD i []) 1 < r then false
   else safeFrom t r l am (i + 1) k (lo + ix (am.getD i []) 0 - ix (l.getD i []) 1) (hi + ix (am.getD i []) 0 - ix (l.getD i []) 0)
def tankPre (t r : Int) (l am : List (List D)) : Prop := 0 ≤ r ∧ t ≤ 1000000 ∧ am.length = l.length ∧ l.length ≤ 50 ∧ allFrom (legAt l) 0 l.length = true
def bounds (t lo hi : Int) : Prop := 0 ≤ lo ∧ lo ≤ hi ∧ hi ≤ t
def G95 (ds : List D) : T (List D) := match ds with
 | [a, b, c] => .leaf [.b (!legP a.I b.I c.I)]
 | _ => .fail
def G127 (ds : List D) : T (List D) := match ds with
 | [l] => .need (yes (l.L.length < big)) (.leaf [.i (firstFrom (fun j => !legAt l.L j) 0 l.L.length)])
 | _ => .fail
def G127_2 (ds : List D) : T (Ex × List D) := match ds with
 | [l, n, i] => .need (yes (l.L.length < big ∧ n.I = l.L.length ∧ 0 ≤ i.I ∧ i.I ≤ n.I))
     (.ite (decide (firstFrom (fun j => !legAt l.L j) i.I.toNat (l.L.length - i.I.toNat) ≥ 0)) (.leaf (.ret, [.i (firstFrom (fun j => !legAt l.L j) i.I.toNat (l.L.length - i.I.toNat))])) (.leaf (.exit 0, [])))
 | _ => .fail
def G94 (ds : List D) : T (List D) := match ds with
 | [l] => .need (yes (l.L.length < big)) (.leaf [.b (!allFrom (legAt l.L) 0 l.L.length)])
 | _ => .fail
def G47 (ds : List D) : T (List D) := match ds with
 | [t, r, s, l] => .need (yes (l.L.length < big)) (.leaf [.b (tankOk t.I r.I s.I l.L)])
 | _ => .fail
def G48 (ds : List D) : T (List D) := match ds with
 | [t, r, s, l, am] => .need (yes (tankPre t.I r.I l.L am.L ∧ allFrom (amOk l.L am.L) 0 l.L.length = true ∧ bounds t.I s.I s.I)) (.leaf [.b (safeFrom t.I r.I l.L am.L 0 l.L.length s.I s.I)])
 | _ => .fail
def G48_3 (ds : List D) : T (Ex × List D) := match ds with
 | [t, r, am, lo, hi, l, n, i] => .need (yes (tankPre t.I r.I l.L am.L ∧ allFrom (amOk l.L am.L) 0 l.L.length = true ∧ bounds t.I lo.I hi.I ∧ n.I = l.L.length ∧ 0 ≤ i.I ∧ i.I ≤ n.I))
     (.ite (safeFrom t.I r.I l.L am.L i.I.toNat (l.L.length - i.I.toNat) lo.I hi.I) (.leaf (.exit 0, [])) (.leaf (.ret, [.b false])))
 | _ => .fail
def G13 (ds : List D) : T (List D) := match ds with
 | [t, r, s, l] => .leaf [.b (tankOk t.I r.I s.I l.L)]
 | _ => .fail
def G13_4 (ds : List D) : T (Ex × List D) := match ds with
 | [l, i] => .need (yes (l.L.length < big ∧ 0 ≤ i.I ∧ i.I ≤ l.L.length))
     (.ite (allFrom (legAt l.L) i.I.toNat (l.L.length - i.I.toNat)) (.leaf (.exit 0, [])) (.leaf (.ret, [.b false])))
 | _ => .fail
end
noncomputable section
def mkI (xs : List Int) : List (List D) := xs.map fun n => [.i n]
def tabI (n : Nat) (f : Nat → Int) : List (List D) := mkI ((List.range n).map f)
def leastOf (l : List (List D)) (j : Nat) : Int := ix (l.getD j []) 0
def mostOf (l : List (List D)) (j : Nat) : Int := ix (l.getD j []) 1
def fillOf (l : List (List D)) (j : Nat) : Int := ix (l.getD j []) 2
def needAt (l : List (List D)) (r s : Int) : Nat → Int
 | 0 => r - s
 | j + 1 => needAt l r s j + mostOf l j
def upAt (l : List (List D)) (r s : Int) : Nat → Int
 | 0 => 0
 | j + 1 => max (upAt l r s j) (needAt l r s (j + 1))
def downAt (l : List (List D)) (r s : Int) : Nat → Nat → Int
 | 0, j => upAt l r s (j + 1)
 | k + 1, j => max (upAt l r s (j + 1)) (downAt l r s k (j + 1) - fillOf l (j + 1))
def sumAt (l : List (List D)) (r s : Int) (j : Nat) : Int := downAt l r s (l.length - 1 - j) j
def outAt (l : List (List D)) (r s : Int) : Nat → Int
 | 0 => sumAt l r s 0
 | j + 1 => sumAt l r s (j + 1) - sumAt l r s j
def beforeAt (l : List (List D)) (r s : Int) : Nat → Int
 | 0 => 0
 | j + 1 => sumAt l r s j
def upTo (l : List (List D)) (r s : Int) (i : Nat) : List (List D) := tabI l.length fun j => if j < i then upAt l r s (j + 1) else 0
def downTo (l : List (List D)) (r s : Int) (i : Int) : List (List D) := tabI l.length fun j => if i < (j : Int) then sumAt l r s j else upAt l r s (j + 1)
def outTo (l : List (List D)) (r s : Int) (i : Nat) : List (List D) := tabI l.length fun j => if j < i then outAt l r s j else 0
def sums (l : List (List D)) (r s : Int) : List (List D) := tabI l.length (sumAt l r s)
def outs (l : List (List D)) (r s : Int) : List (List D) := tabI l.length (outAt l r s)
def outOk (l : List (List D)) (r s : Int) (j : Nat) : Bool := decide (outAt l r s j ≤ fillOf l j)
def fuelOk (t r s : Int) (l : List (List D)) : Bool := allFrom (outOk l r s) 0 l.length && safeFrom t r l (outs l r s) 0 l.length s s
def tankP (t r s : Int) (l : List (List D)) : Prop := tankOk t r s l = true
def G14 (ds : List D) : T (List D) := match ds with
 | [t, r, s, l] => .need (yes (l.L.length < big)) (.ite (tankOk t.I r.I s.I l.L) (.ite (fuelOk t.I r.I s.I l.L) (.leaf [.i 1, .i l.L.length, .i 0, .l (outs l.L r.I s.I)]) (.leaf [.i 0, .i 5])) (.leaf [.i 0, .i 2]))
 | _ => .fail
def G14_8 (ds : List D) : T (Ex × List D) := match ds with
 | [t, r, s, l, n, m, need, most, l', n', i, row] => .need (yes (tankP t.I r.I s.I l.L ∧ n.I = l.L.length ∧ m.I = l.L.length ∧ l'.L = l.L ∧ n'.I = l.L.length ∧ 0 ≤ i.I ∧ i.I ≤ l.L.length ∧
       need.I = needAt l.L r.I s.I i.I.toNat ∧ most.I = upAt l.L r.I s.I i.I.toNat ∧ row.L = upTo l.L r.I s.I i.I.toNat))
     (.leaf (.exit 0, [.i t.I, .i r.I, .i s.I, .l l.L, .i l.L.length, .i l.L.length, .l (upTo l.L r.I s.I l.L.length)]))
 | _ => .fail
def G14_15 (ds : List D) : T (Ex × List D) := match ds with
 | [t, r, s, l, n, m, i, row] => .need (yes (tankP t.I r.I s.I l.L ∧ n.I = l.L.length ∧ m.I = l.L.length ∧ -2 ≤ i.I ∧ i.I ≤ l.L.length - 2 ∧ row.L = downTo l.L r.I s.I i.I))
     (.leaf (.exit 2, [.i t.I, .i r.I, .i s.I, .l l.L, .i l.L.length, .i l.L.length, .l (sums l.L r.I s.I)]))
 | _ => .fail
def G14_21 (ds : List D) : T (Ex × List D) := match ds with
 | [t, r, s, l, m, b, m', n, i, row, row'] => .need (yes (tankP t.I r.I s.I l.L ∧ m.I = l.L.length ∧ m'.I = l.L.length ∧ n.I = l.L.length ∧ 0 ≤ i.I ∧ i.I ≤ l.L.length ∧ b.I = beforeAt l.L r.I s.I i.I.toNat ∧
       row.L = outTo l.L r.I s.I i.I.toNat ∧ row'.L = sums l.L r.I s.I))
     (.ite (allFrom (outOk l.L r.I s.I) i.I.toNat (l.L.length - i.I.toNat)) (.leaf (.exit 4, [.i t.I, .i r.I, .i s.I, .l l.L, .i l.L.length, .l (outs l.L r.I s.I)])) (.leaf (.ret, [.i 5])))
 | _ => .fail
end
noncomputable section
def jobP (c : List D) : Bool := within (ix c 0) 0 1000 && within (ix c 1) 0 1000000
def needJ (i : Int) (ns : List (List D)) (k : Nat) : Bool := within (ix (ns.getD k []) 0) 0 (i - 1) && (decide (k = 0) || decide (ix (ns.getD (k - 1) []) 0 < ix (ns.getD k []) 0))
def jobAt (l : List (List D)) (i : Nat) : Bool := jobP (l.getD i []) && allFrom (needJ i (lx (l.getD i []) 3)) 0 (lx (l.getD i []) 3).length
def jobsOk (l : List (List D)) : Bool := allFrom (jobAt l) 0 l.length && decide (l.length ≤ 20)
def fewNeeds (l : List (List D)) (j : Nat) : Bool := decide ((lx (l.getD j []) 3).length ≤ 30)
def needsOk (l : List (List D)) : Bool := allFrom (fewNeeds l) 0 l.length && decide (l.length ≤ 30)
def bitsFrom (s : Nat) : Nat → Nat → List Int
 | _, 0 => []
 | i, k + 1 => if s.testBit i then (i : Int) :: bitsFrom s (i + 1) k else bitsFrom s (i + 1) k
def bitsL (s : Nat) : List Int := bitsFrom s 0 20
def bitAt (s : Nat) (ns : List (List D)) (k : Nat) : Bool := s.testBit (ix (ns.getD k []) 0).toNat
def worthFrom (l : List (List D)) (s : Nat) : Nat → Nat → Int → Int → Int × Int × Bool
 | _, 0, v, t => (v, t, true)
 | i, k + 1, v, t => if s.testBit i then
     (if allFrom (bitAt s (lx (l.getD i []) 3)) 0 (lx (l.getD i []) 3).length then worthFrom l s (i + 1) k (v + ix (l.getD i []) 1) (t + ix (l.getD i []) 0) else (0, 0, false))
     else if bx (l.getD i []) 2 then (0, 0, false) else worthFrom l s (i + 1) k v t
def worthOf (l : List (List D)) (s : Nat) : Int × Int × Bool := worthFrom l s 0 l.length 0 0
def worthOk (l : List (List D)) (m : Int) (s : Nat) : Bool := (worthOf l s).2.2 && decide ((worthOf l s).2.1 ≤ m)
def cmpI (x y : Int) : Int := if x < y then -1 else if y < x then 1 else 0
def cmpFrom (a b : List (List D)) : Nat → Nat → Int
 | _, 0 => 0
 | i, k + 1 => if b.length ≤ i then 1 else if cmpI (ix (a.getD i []) 0) (ix (b.getD i []) 0) ≠ 0 then cmpI (ix (a.getD i []) 0) (ix (b.getD i []) 0) else cmpFrom a b (i + 1) k
def cmpL (a b : List (List D)) : Int := if cmpFrom a b 0 a.length ≠ 0 then cmpFrom a b 0 a.length else if a.length < b.length then -1 else 0
def betterB (s : Nat) (v t : Int) (s' : Nat) (v' t' : Int) : Bool := if v ≠ v' then decide (v > v') else if t ≠ t' then decide (t < t') else decide (cmpL (mkI (bitsL s)) (mkI (bitsL s')) < 0)
def betterR (x y : List D) : Bool := betterB (ix x 0).toNat (ix x 1) (ix x 2) (ix y 0).toNat (ix y 1) (ix y 2)
def nrm (r : List D) : List D := [.i (ix r 0), .i (ix r 1), .i (ix r 2)]
def rowS (s : Nat) (v t : Int) : List D := [.i s, .i v, .i t]
def isSet (r : List D) : Prop := 0 ≤ ix r 0 ∧ ix r 0 < 1048576
def bestStep (l : List (List D)) (m : Int) (s : Nat) (b : Option (List D)) : Option (List D) :=
 if worthOk l m s then some (match b with
  | none => rowS s (worthOf l s).1 (worthOf l s).2.1
  | some r => if betterR (rowS s (worthOf l s).1 (worthOf l s).2.1) r then rowS s (worthOf l s).1 (worthOf l s).2.1 else r) else b
def bestFrom (l : List (List D)) (m : Int) : Nat → Nat → Option (List D) → Option (List D)
 | _, 0, b => b
 | s, k + 1, b => bestFrom l m (s + 1) k (bestStep l m s b)
def bestAll (l : List (List D)) (m : Int) : Option (List D) := bestFrom l m 0 (2 ^ l.length) none
def G73 (ds : List D) : T (List D) := match ds with
 | [l] => .need (yes (needsOk l.L = true)) (.leaf [.b (jobsOk l.L)])
 | _ => .fail
def G73_2 (ds : List D) : T (Ex × List D) := match ds with
 | [l, l', n, i] => .need (yes (needsOk l.L = true ∧ l'.L = l.L ∧ n.I = l.L.length ∧ 0 ≤ i.I ∧ i.I ≤ n.I)) (.ite (allFrom (jobAt l.L) i.I.toNat (l.L.length - i.I.toNat)) (.leaf (.exit 0, [.l l.L])) (.leaf (.ret, [.b false])))
 | _ => .fail
def G73_7 (ds : List D) : T (Ex × List D) := match ds with
 | [l, i, l', n, i', ns, m, k, _, _, _, d] => .need (yes (d.L = ns.L ∧ m.I = ns.L.length ∧ ns.L.length ≤ 30 ∧ 0 ≤ i.I ∧ i.I ≤ 100 ∧ 0 ≤ k.I ∧ k.I ≤ m.I))
     (.ite (allFrom (needJ i.I ns.L) k.I.toNat (ns.L.length - k.I.toNat)) (.leaf (.exit 2, [.l l.L, .l l'.L, .i n.I, .i i'.I])) (.leaf (.ret, [.b false])))
 | _ => .fail
def G139 (ds : List D) : T (List D) := match ds with
 | [_] => .leaf [.b false]
 | _ => .fail
def G116 (ds : List D) : T (List D) := match ds with
 | [x, y] => .leaf [.i (cmpI x.I y.I)]
 | _ => .fail
def G75 (ds : List D) : T (List D) := match ds with
 | [a, b] => .need (yes (a.L.length < big ∧ b.L.length < big)) (.leaf [.i (cmpL a.L b.L)])
 | _ => .fail
def G75_2 (ds : List D) : T (Ex × List D) := match ds with
 | [a, b, a', n, i] => .need (yes (a.L.length < big ∧ b.L.length < big ∧ a'.L = a.L ∧ n.I = a.L.length ∧ 0 ≤ i.I ∧ i.I ≤ n.I))
     (.ite (decide (cmpFrom a.L b.L i.I.toNat (a.L.length - i.I.toNat) = 0)) (.leaf (.exit 0, [.l a.L, .l b.L])) (.leaf (.ret, [.i (cmpFrom a.L b.L i.I.toNat (a.L.length - i.I.toNat))])))
 | _ => .fail
def G76 (ds : List D) : T (List D) := match ds with
 | [s] => .need (yes (0 ≤ s.I ∧ s.I < 1048576)) (.ite (bitsL s.I.toNat).isEmpty (.leaf [.i 0]) (.leaf [.i 1, .i (bitsL s.I.toNat).length, .l (mkI (bitsL s.I.toNat))]))
 | _ => .fail
def G76_3 (ds : List D) : T (Ex × List D) := match ds with
 | [j, s, i] => .need (yes (j = .i 0 ∧ 0 ≤ s.I ∧ s.I < 1048576 ∧ 0 ≤ i.I ∧ i.I ≤ 20))
     (.ite (bitsFrom s.I.toNat i.I.toNat (20 - i.I.toNat)).isEmpty (.leaf (.exit 0, [.i 0])) (.leaf (.exit 0, [.i 1, .i (bitsFrom s.I.toNat i.I.toNat (20 - i.I.toNat)).length, .l (mkI (bitsFrom s.I.toNat i.I.toNat (20 - i.I.toNat)))])))
 | [j, s, m, i, row] => .need (yes (j = .i 1 ∧ 0 ≤ s.I ∧ s.I < 1048576 ∧ 0 ≤ i.I ∧ i.I ≤ 20 ∧ m.I = row.L.length ∧ row.L.length ≤ i.I))
     (.leaf (.exit 0, [.i 1, .i (row.L.length + (bitsFrom s.I.toNat i.I.toNat (20 - i.I.toNat)).length : Nat), .l (row.L ++ mkI (bitsFrom s.I.toNat i.I.toNat (20 - i.I.toNat)))]))
 | _ => .fail
def G77 (ds : List D) : T (List D) := match ds with
 | [l, m, s] => .need (yes (jobsOk l.L = true ∧ 0 ≤ s.I ∧ s.I < 1048576)) (.leaf [.i (worthOf l.L s.I.toNat).1, .i (worthOf l.L s.I.toNat).2.1, .b (worthOk l.L m.I s.I.toNat)])
 | _ => .fail
def G77_3 (ds : List D) : T (Ex × List D) := match ds with
 | [m, s, v, t, l, n, i] => .need (yes (jobsOk l.L = true ∧ 0 ≤ s.I ∧ s.I < 1048576 ∧ n.I = l.L.length ∧ 0 ≤ i.I ∧ i.I ≤ n.I ∧ 0 ≤ v.I ∧ v.I ≤ 1000000 * i.I ∧ 0 ≤ t.I ∧ t.I ≤ 1000 * i.I))
     (.ite (worthFrom l.L s.I.toNat i.I.toNat (l.L.length - i.I.toNat) v.I t.I).2.2
      (.leaf (.exit 0, [.i m.I, .i (worthFrom l.L s.I.toNat i.I.toNat (l.L.length - i.I.toNat) v.I t.I).1, .i (worthFrom l.L s.I.toNat i.I.toNat (l.L.length - i.I.toNat) v.I t.I).2.1])) (.leaf (.ret, [.i 0, .i 0, .b false])))
 | _ => .fail
def G77_9 (ds : List D) : T (Ex × List D) := match ds with
 | [m, s, v, t, l, n, i, ns, q, k, a, b, c, d] => .need (yes (0 ≤ s.I ∧ s.I < 1048576 ∧ q.I = ns.L.length ∧ 0 ≤ k.I ∧ k.I ≤ q.I ∧ ns.L.length ≤ 30 ∧ allFrom (fun j => within (ix (ns.L.getD j []) 0) 0 30) 0 ns.L.length = true))
     (.ite (allFrom (bitAt s.I.toNat ns.L) k.I.toNat (ns.L.length - k.I.toNat)) (.leaf (.exit 2, [.i m.I, .i s.I, .i v.I, .i t.I, .l l.L, .i n.I, .i i.I, .i a.I, .i b.I, .b c.B, .l d.L])) (.leaf (.ret, [.i 0, .i 0, .b false])))
 | _ => .fail
def G74 (ds : List D) : T (List D) := match ds with
 | [s, v, t, s', v', t'] => .need (yes (0 ≤ s.I ∧ s.I < 1048576 ∧ 0 ≤ s'.I ∧ s'.I < 1048576)) (.leaf [.b (betterB s.I.toNat v.I t.I s'.I.toNat v'.I t'.I)])
 | _ => .fail
def pickR (l : List (List D)) : List D := if l.length = 2 then (if betterR (l.getD 1 []) (l.getD 0 []) then l.getD 1 [] else l.getD 0 []) else l.getD 0 []
def G78 (ds : List D) : T (List D) := match ds with
 | [l] => .need (yes (1 ≤ l.L.length ∧ l.L.length ≤ 2 ∧ isSet (l.L.getD 0 []) ∧ isSet (l.L.getD 1 []))) (.leaf (nrm (pickR l.L)))
 | _ => .fail
def outR (l : List (List D)) (i : Int) (r : List D) : List D := if i < l.length then (if betterR (l.getD 0 []) r then l.getD 0 [] else r) else r
def G78_3 (ds : List D) : T (Ex × List D) := match ds with
 | [l, n, i, a, b, c, x, y, z] => .need (yes (l.L.length ≤ 1 ∧ n.I = l.L.length ∧ 0 ≤ i.I ∧ i.I ≤ n.I ∧ isSet [x, y, z] ∧ isSet (l.L.getD 0 [])))
     (.leaf (.exit 0, [.i a.I, .i b.I, .i c.I, .i (ix (outR l.L i.I [x, y, z]) 0), .i (ix (outR l.L i.I [x, y, z]) 1), .i (ix (outR l.L i.I [x, y, z]) 2)]))
 | _ => .fail
def G28 (ds : List D) : T (List D) := match ds with
 | [l, m] => .need (yes (needsOk l.L = true)) (.ite (jobsOk l.L && within m.I 0 10000)
     (.ite (bestAll l.L m.I).isSome (.leaf [.l (mkI (bitsL (ix ((bestAll l.L m.I).getD []) 0).toNat)), .i 0])
      (.leaf [.l [], .i 5])) (.leaf [.l [], .i 2]))
 | _ => .fail
def G28_6 (ds : List D) : T (Ex × List D) := match ds with
 | [j, l, m, n, s] => .need (yes (j = .i 0 ∧ jobsOk l.L = true ∧ n.I = (2 ^ l.L.length : Nat) ∧ 0 ≤ s.I ∧ s.I ≤ n.I))
     (.ite (bestFrom l.L m.I s.I.toNat (2 ^ l.L.length - s.I.toNat) none).isSome (.leaf (.exit 0, [.i 1, .i 1, .l [(bestFrom l.L m.I s.I.toNat (2 ^ l.L.length - s.I.toNat) none).getD []]])) (.leaf (.exit 0, [.i 0])))
 | [j, l, m, q, n, s, row] => .need (yes (j = .i 1 ∧ jobsOk l.L = true ∧ n.I = (2 ^ l.L.length : Nat) ∧ 0 ≤ s.I ∧ s.I ≤ n.I ∧ q.I = 1 ∧ row.L = [nrm (row.L.getD 0 [])] ∧ isSet (row.L.getD 0 [])))
     (.leaf (.exit 0, [.i 1, .i 1, .l [(bestFrom l.L m.I s.I.toNat (2 ^ l.L.length - s.I.toNat) (some (row.L.getD 0 []))).getD []]]))
 | _ => .fail
end
noncomputable section
def needsW (l : List (List D)) : Prop := l.length ≤ 30 ∧ ∀ j, (lx (l.getD j []) 3).length < 9223372036854775808
def G27 (ds : List D) : T (List D) := match ds with
 | [l, m] => .need (yes (needsW l.L)) (.leaf [.b (jobsOk l.L && within m.I 0 10000)])
 | _ => .fail
def G27_4 (ds : List D) : T (Ex × List D) := match ds with
 | [l, i] => .need (yes (needsW l.L ∧ 0 ≤ i.I ∧ i.I ≤ l.L.length)) (.ite (allFrom (jobAt l.L) i.I.toNat (l.L.length - i.I.toNat)) (.leaf (.exit 0, [])) (.leaf (.ret, [.b false])))
 | _ => .fail
def G27_9 (ds : List D) : T (Ex × List D) := match ds with
 | [l, i, k] => .need (yes (needsW l.L ∧ 0 ≤ i.I ∧ i.I < l.L.length ∧ 0 ≤ k.I ∧ k.I ≤ (lx (l.L.getD i.I.toNat []) 3).length))
     (.ite (allFrom (needJ i.I (lx (l.L.getD i.I.toNat []) 3)) k.I.toNat ((lx (l.L.getD i.I.toNat []) 3).length - k.I.toNat)) (.leaf (.exit 2, [.l l.L, .i i.I])) (.leaf (.ret, [.b false])))
 | _ => .fail
end
noncomputable section
def G31 (ds : List D) : T (List D) := match ds with
 | [t, r, s, l, am] => .need (yes (l.L.length < big ∧ am.L.length < big)) (.leaf [.b (tankOk t.I r.I s.I l.L && decide (am.L.length = l.L.length) && allFrom (amOk l.L am.L) 0 am.L.length && safeFrom t.I r.I l.L am.L 0 l.L.length s.I s.I)])
 | _ => .fail
def G31_4 (ds : List D) : T (Ex × List D) := match ds with
 | [t, r, s, l, am, a2, n, i] => .need (yes (a2.L = am.L ∧ am.L.length = l.L.length ∧ l.L.length < big ∧ n.I = am.L.length ∧ 0 ≤ i.I ∧ i.I ≤ n.I))
     (.ite (allFrom (amOk l.L am.L) i.I.toNat (am.L.length - i.I.toNat)) (.leaf (.exit 0, [.i t.I, .i r.I, .i s.I, .l l.L, .l am.L])) (.leaf (.ret, [.b false])))
 | _ => .fail
end
noncomputable section
def chY (x : List D) : List (List D) := lx x 1
def pickF (c f : Int) (w : List (List D)) : List (List D) → Int → Int × List (List D) × Int
 | [], t => (5, [], t)
 | x :: L, t => if t = 20000 then (9, [], t) else if duesOk c f w (chY x) then (0, chY x, t + 1) else pickF c f w L (t + 1)
def yOK (w : List (List D)) (x : List D) : Prop := x = [.i w.length, .l (chY x)] ∧ carOK w (chY x)
def rowP (c f : Int) (w ch : List (List D)) : List (List D) := (pushP true c f w ch).1
def G26_7 (L : List (List D)) (ds : List D) : T (Ex × List D) := match ds with
 | [h, c, f, w, e, t] => .need (yes (h.I = 0 ∧ planB c.I f.I w.L = true ∧ (∀ x ∈ L, yOK w.L x) ∧ 0 ≤ t.I ∧ t.I ≤ 20000))
     (.ite (decide ((pickF c.I f.I w.L L t.I).1 = 0))
      (.leaf (.ret, [.i 1, .i c.I, .i f.I, .l w.L, .i 1, .i (w.L.length + 1 : Nat), .i w.L.length, .i w.L.length, .i w.L.length, .i 0, .i (pickF c.I f.I w.L L t.I).2.2, .l (rowP c.I f.I w.L (pickF c.I f.I w.L L t.I).2.1),
       .l (clR c.I f.I w.L (pickF c.I f.I w.L L t.I).2.1), .l (opR c.I f.I w.L (pickF c.I f.I w.L L t.I).2.1), .l (pickF c.I f.I w.L L t.I).2.1]))
      (.ite (decide ((pickF c.I f.I w.L L t.I).1 = 9)) (.leaf (.ret, [.i 0, .i c.I, .i f.I, .l w.L, .i 9, .i (pickF c.I f.I w.L L t.I).2.2])) (.leaf (.normal, [.i 0, .i c.I, .i f.I, .l w.L, .i e.I, .i (pickF c.I f.I w.L L t.I).2.2]))))
 | _ => .fail
def G26 (ds : List D) : T (List D) := match ds with
 | [c, f, w] => .ite (planB c.I f.I w.L)
     (.need (yes (fewC w.L)) (.ite (decide ((foundC c.I f.I w.L).1 = 0))
      (.leaf [.i 1, .i 1, .i (w.L.length + 1 : Nat), .i w.L.length, .i w.L.length, .i w.L.length, .i 0, .l (rowP c.I f.I w.L (foundC c.I f.I w.L).2), .l (clR c.I f.I w.L (foundC c.I f.I w.L).2), .l (opR c.I f.I w.L (foundC c.I f.I w.L).2), .l (foundC c.I f.I w.L).2])
      (.leaf [.i 0, .i (foundC c.I f.I w.L).1])))
     (.leaf [.i 0, .i 2])
 | _ => .fail
end
noncomputable section
def setTo (ch : List (List D)) : Nat → Nat
 | 0 => 0
 | k + 1 => setTo ch k ||| 2 ^ (ix (ch.getD k []) 0).toNat
def choAt (l ch : List (List D)) (k : Nat) : Bool := within (ix (ch.getD k []) 0) 0 (l.length - 1) && (decide (k = 0) || decide (ix (ch.getD (k - 1) []) 0 < ix (ch.getD k []) 0))
def G29 (ds : List D) : T (List D) := match ds with
 | [l, m, ch] => .need (yes ((jobsOk l.L = true ∧ (0 ≤ m.I ∧ m.I ≤ 10000)) ∧ ch.L.length ≤ 20 ∧ allFrom (choAt l.L ch.L) 0 ch.L.length = true))
     (.ite (worthOk l.L m.I (setTo ch.L ch.L.length)) (.leaf [.i (worthOf l.L (setTo ch.L ch.L.length)).1, .i (worthOf l.L (setTo ch.L ch.L.length)).2.1, .i 0]) (.leaf [.i 0, .i 0, .i 2]))
 | _ => .fail
def G29_5 (ds : List D) : T (Ex × List D) := match ds with
 | [l, m, ch, s, ch', n, i] => .need (yes (jobsOk l.L = true ∧ ch'.L = ch.L ∧ n.I = ch.L.length ∧ ch.L.length ≤ 20 ∧ allFrom (choAt l.L ch.L) 0 ch.L.length = true ∧ 0 ≤ i.I ∧ i.I ≤ n.I ∧ s.I = (setTo ch.L i.I.toNat : Nat)))
     (.leaf (.exit 0, [.l l.L, .i m.I, .i (setTo ch.L ch.L.length : Nat)]))
 | _ => .fail
def winS (w : List (List D)) (j : Nat) : Bool := decide ((lx (w.getD j []) 7).length ≤ 3)
def planS (c f : Int) (w : List (List D)) : Bool := decide (w.length ≤ 6) && allFrom (winS w) 0 w.length && planB c f w
def G24 (ds : List D) : T (List D) := match ds with
 | [c, f, w] => .leaf [.b (planS c.I f.I w.L)]
 | _ => .fail
def G24_4 (ds : List D) : T (Ex × List D) := match ds with
 | [i, c, f, w] => .need (yes (0 ≤ i.I ∧ i.I ≤ w.L.length ∧ w.L.length ≤ 6)) (.ite (allFrom (winS w.L) i.I.toNat (w.L.length - i.I.toNat)) (.leaf (.exit 0, [.i c.I, .i f.I, .l w.L])) (.leaf (.ret, [.b false])))
 | _ => .fail
def G25 (ds : List D) : T (List D) := match ds with
 | [] => .leaf [.b true]
 | _ => .fail
end
noncomputable section
def bnd (a b : Int) : Bool := decide (1 ≤ a) && (decide (a ≤ b) && decide (b ≤ 700))
def rowSp (l : List (List D)) (k : Nat) : Bool := bnd (ix (l.getD k []) 1) (ix (l.getD k []) 2) && (decide (ix (l.getD k []) 0 ≤ 2000) && riseAt l k)
def pctAt (l : List (List D)) (k : Nat) : Bool := within (ix (l.getD k []) 0) 1 100
def headSp (lo hi : Int) (r u : List (List D)) : Bool := bnd lo hi && (within r.length 1 30 && (decide (u.length = 9) && decide (ix (r.getD 0 []) 0 = 5)))
def speedsOk (lo hi : Int) (r u : List (List D)) : Bool := headSp lo hi r u && (allFrom (rowSp r) 0 r.length && allFrom (pctAt u) 0 9)
def spP (lo hi : Int) (r u : List (List D)) : Prop := speedsOk lo hi r u = true
def rowI (r : List (List D)) (c : Int) : Nat → Nat
 | 0 => 0
 | k + 1 => if ix (r.getD (k + 1) []) 0 > c then rowI r c k else k + 1
def rowLo (lo : Int) (r : List (List D)) (b c : Int) : Int := if b = 0 then lo else ix (r.getD (rowI r c (r.length - 1)) []) 1
def rowHi (hi : Int) (r : List (List D)) (b c : Int) : Int := if b = 0 then hi else ix (r.getD (rowI r c (r.length - 1)) []) 2
def pctOf (u : List (List D)) (e : Int) : Int := ix (u.getD (e - 1).toNat []) 0
def quickV (hi : Int) (r u : List (List D)) (b c e : Int) : Int := (10000000 : Int).tdiv ((rowHi hi r b c * pctOf u e + 99).tdiv 100)
def slowL (lo : Int) (r u : List (List D)) (b c e : Int) : Int := maxI 1 ((rowLo lo r b c * pctOf u e).tdiv 100)
def slowV (lo : Int) (r u : List (List D)) (b c e : Int) : Int := (10000000 + slowL lo r u b c e - 1).tdiv (slowL lo r u b c e)
def G9 (ds : List D) : T (List D) := match ds with
 | [lo, hi, r, u] => .leaf [.b (speedsOk lo.I hi.I r.L u.L)]
 | _ => .fail
def G11 : List D → T (List D) := G19
def G8 (ds : List D) : T (List D) := match ds with
 | [p, c, j] => .leaf [.b (roadOk p.L c.L j.L && decide (lenR p.L ≤ 120))]
 | _ => .fail
end
noncomputable section
def cellT (hi : Int) (r u : List (List D)) (lo : Int) (r' u' : List (List D)) (x : List D) : List D := [.i (quickV hi r u (ix x 1) (ix x 2) (ix x 4)), .i (slowV lo r' u' (ix x 1) (ix x 2) (ix x 4))]
def metsT (hi : Int) (r u : List (List D)) (lo : Int) (r' u' : List (List D)) (p : List (List D)) : Nat → Nat → List (List D)
 | _, 0 => []
 | i, k + 1 => List.replicate (ix (p.getD i []) 0).toNat (cellT hi r u lo r' u' (p.getD i [])) ++ metsT hi r u lo r' u' p (i + 1) k
def mets (lo hi : Int) (r u p : List (List D)) : List (List D) := metsT hi r u lo r u p 0 p.length
def cumL : Int → Int → List (List D) → List (List D)
 | _, _, [] => []
 | a, d, x :: L => [.i (a + ix x 0), .i (d + ix x 1)] :: cumL (a + ix x 0) (d + ix x 1) L
def sumsM (lo hi : Int) (r u p : List (List D)) : List (List D) := [.i 0, .i 0] :: cumL 0 0 (mets lo hi r u p)
def sumAtM (k : Nat) (lo hi : Int) (r u p : List (List D)) (x : Int) : Int := ix ((sumsM lo hi r u p).getD x.toNat []) k
def betwB (lo hi : Int) (r u p c j : List (List D)) (a b : Int) : Bool := roadOk p c j && speedsOk lo hi r u && within a 0 (lenR p) && within b 0 (lenR p) && decide (a ≤ b)
end
noncomputable section
def G10 (ds : List D) : T (List D) := match ds with
 | [] => .leaf [.b true]
 | _ => .fail
def betwV (k : Nat) (lo hi : Int) (r u p : List (List D)) (a b : Int) : Int := sumAtM k lo hi r u p b - sumAtM k lo hi r u p a
def G12w (ds : List D) : T (List D) := match ds with
 | [p, c, j, lo, hi, r, u, a, b] => .need (yes (betwB lo.I hi.I r.L u.L p.L c.L j.L a.I b.I = true)) (.leaf [.i (betwV 0 lo.I hi.I r.L u.L p.L a.I b.I), .i (betwV 1 lo.I hi.I r.L u.L p.L a.I b.I), .i 0])
 | _ => .fail
def G14w (ds : List D) : T (List D) := match ds with
 | [t, r, s, l] => .need (yes (tankP t.I r.I s.I l.L)) (.ite (fuelOk t.I r.I s.I l.L) (.leaf [.i 1, .i l.L.length, .i 0, .l (outs l.L r.I s.I)]) (.leaf [.i 0, .i 5]))
 | _ => .fail
def rgI (t : List (List D)) (j : Nat) : Int := ix (t.getD j []) 0
def plF (cuts : List (List D)) (i : Nat) : List (List D) := [.i 0] :: (List.range i).map fun j => [.i (rgI cuts j)]
def cutAt (cuts : List (List D)) (n : Int) (j : Nat) : Bool := decide (rgI cuts j > rgI (plF cuts j) j) && decide (rgI cuts j < n)
def paceP (lo hi : Int) (r u p c j : List (List D)) : Prop := (roadP p c j ∧ spP lo hi r u) ∧ lenR p ≤ 120
def plOk (n : Int) (o : List (List D)) : Prop := o.length ≤ 10 ∧ ∀ k, k + 1 < o.length → 0 ≤ rgI o k ∧ rgI o k ≤ rgI o (k + 1) ∧ rgI o (k + 1) ≤ n
def legI (lo hi : Int) (r u p fills o : List (List D)) (k : Nat) : List D :=
 [.i ((betwV 0 lo hi r u p (rgI o k) (rgI o (k + 1))).tdiv 100000), .i ((betwV 1 lo hi r u p (rgI o k) (rgI o (k + 1))).tdiv 100000 + 1), .i (if k < fills.length then rgI fills k else 0)]
def legsF (lo hi : Int) (r u p fills o : List (List D)) (n : Nat) : List (List D) := (List.range n).map (legI lo hi r u p fills o)
def G3_5 (ds : List D) : T (Ex × List D) := match ds with
 | [cuts, sh, fi, ta, re, s, i, p, c, j, lo, hi, r, u, o] => .need (yes (manyP p.L ∧ lenR p.L ≤ 120 ∧ cuts.L.length ≤ 7 ∧ 0 ≤ i.I ∧ i.I ≤ cuts.L.length ∧ s.I = i.I + 1 ∧ o.L = plF cuts.L i.I.toNat))
     (.ite (allFrom (cutAt cuts.L (lenR p.L)) i.I.toNat (cuts.L.length - i.I.toNat)) (.leaf (.exit 0, [.l sh.L, .l fi.L, .i ta.I, .i re.I, .i (cuts.L.length + 1 : Nat), .l p.L, .l c.L, .l j.L, .i lo.I, .i hi.I, .l r.L, .l u.L, .l (plF cuts.L cuts.L.length)])) (.leaf (.ret, [.b true])))
 | _ => .fail
def G3_13 (ds : List D) : T (Ex × List D) := match ds with
 | [z, sh, fi, ta, re, s, i, p, c, j, lo, hi, r, u, o] => .need (yes (z.I = 0 ∧ paceP lo.I hi.I r.L u.L p.L c.L j.L ∧ plOk (lenR p.L) o.L ∧ s.I = o.L.length ∧ i.I = 0 ∧ 2 ≤ o.L.length))
     (.leaf (.exit 2, [.i 1, .l sh.L, .i ta.I, .i re.I, .i o.L.length, .i (o.L.length - 1 : Nat), .l p.L, .l c.L, .l j.L, .i lo.I, .i hi.I, .l r.L, .l u.L, .l o.L, .l (legsF lo.I hi.I r.L u.L p.L fi.L o.L (o.L.length - 1))]))
 | [z, sh, fi, ta, re, s, t, i, p, c, j, lo, hi, r, u, o, w] => .need (yes (z.I = 1 ∧ paceP lo.I hi.I r.L u.L p.L c.L j.L ∧ plOk (lenR p.L) o.L ∧ s.I = o.L.length ∧ 1 ≤ i.I ∧ i.I ≤ o.L.length - 1 ∧ t.I = i.I ∧ w.L = legsF lo.I hi.I r.L u.L p.L fi.L o.L i.I.toNat))
     (.leaf (.exit 2, [.i 1, .l sh.L, .i ta.I, .i re.I, .i o.L.length, .i (o.L.length - 1 : Nat), .l p.L, .l c.L, .l j.L, .i lo.I, .i hi.I, .l r.L, .l u.L, .l o.L, .l (legsF lo.I hi.I r.L u.L p.L fi.L o.L (o.L.length - 1))]))
 | _ => .fail
def levP (t r : Int) (l am : List (List D)) (i : Nat) (x : Int) : Prop := ∃ lo hi, (lo ≤ x ∧ x ≤ hi) ∧ (0 ≤ lo ∧ hi ≤ t) ∧ safeFrom t r l am i (l.length - i) lo hi = true
def amP (l am : List (List D)) : Prop := am.length = l.length ∧ ∀ k, k < l.length → 0 ≤ rgI am k ∧ rgI am k ≤ 1000000
def G3_31 (ds : List D) : T (Ex × List D) := match ds with
 | [_, ta, re, s, t, v, lev, i, p, c, j, lo, hi, r, u, o, w, l] => .need (yes ((paceP lo.I hi.I r.L u.L p.L c.L j.L ∧ plOk (lenR p.L) o.L) ∧ (s.I = o.L.length ∧ t.I = w.L.length ∧ v.I = l.L.length) ∧ (∃ fi, w.L = legsF lo.I hi.I r.L u.L p.L fi o.L w.L.length) ∧ w.L.length + 1 = o.L.length ∧ amP w.L l.L ∧
       (0 ≤ re.I ∧ ta.I ≤ 1000000) ∧ 0 ≤ i.I ∧ i.I ≤ w.L.length ∧ levP ta.I re.I w.L l.L i.I.toNat lev.I))
     (.leaf (.exit 4, []))
 | _ => .fail
end
def s5 : Sig := ⟨[.agg [.k (.int .i64), .k (.int .i64), .k (.ro [.int .i64, .int .i64, .int .i64, .int .i64, .bool, .int .i64, .int .i64, .ro [.int .i64, .int .i64, .int .i64]])], .k (.ro [.int .i64, .int .i64, .bool, .ro [.int .i64]]), .k (.int .i64), .k (.int .i64), .k (.ro [.int .i64, .int .i64, .int .i64]), .k (.ro [.int .i64])], [(.k .bool, [])]⟩
def l5_6 : LSig := mkLS [1, 2, 3, 4, 5, 6, 13, 15] [(233, [(1, .k (.ro [.int .i64, .int .i64, .bool, .ro [.int .i64]])), (2, .k (.int .i64)), (3, .k (.int .i64)), (4, .k (.ro [.int .i64, .int .i64, .int .i64])), (5, .k (.ro [.int .i64])), (6, .ptr 0 3 0 0), (13, .ptr 1 4 0 0), (15, .k (.int .i64))], [.box [.k (.int .i64), .k (.int .i64), .k (.ro [.int .i64, .int .i64, .int .i64, .int .i64, .bool, .int .i64, .int .i64, .ro [.int .i64, .int .i64, .int .i64]])], .box [.sub 2 1, .sl 3 1, .sl 4 1, .sl 5 1], .row [.int .i64], .row [.int .i64], .row [.int .i64], .row [.int .i64]])] [(.ret, [12], [(233, [(12, .k .bool)], [])]), (.exit 0, [2, 3, 4, 5], [(233, [(2, .k (.int .i64)), (3, .k (.int .i64)), (4, .k (.ro [.int .i64, .int .i64, .int .i64])), (5, .k (.ro [.int .i64]))], [])])]
def l5_24 : LSig := mkLS [2, 3, 4, 5, 28, 30, 31] [(233, [(2, .k (.int .i64)), (3, .k (.int .i64)), (4, .k (.ro [.int .i64, .int .i64, .int .i64])), (5, .k (.ro [.int .i64])), (28, .sl 0 1), (30, .k (.int .i64)), (31, .k (.int .i64))], [.row [.int .i64]])] [(.ret, [12], [(233, [(12, .k .bool)], [])]), (.exit 2, [2, 3, 4, 28], [(233, [(2, .k (.int .i64)), (3, .k (.int .i64)), (4, .k (.ro [.int .i64, .int .i64, .int .i64])), (28, .sl 0 1)], [.row [.int .i64]])])]
noncomputable section
def G2026 (ds : List D) : T (List D) := match ds with
 | [c, f, w] => .need (yes (planB c.I f.I w.L = true ∧ fewC w.L)) (.ite (decide ((foundC c.I f.I w.L).1 = 0))
       (.leaf [.i 1, .i 1, .i (w.L.length + 1 : Nat), .i w.L.length, .i w.L.length, .i w.L.length, .i 0, .l (rowP c.I f.I w.L (foundC c.I f.I w.L).2), .l (clR c.I f.I w.L (foundC c.I f.I w.L).2), .l (opR c.I f.I w.L (foundC c.I f.I w.L).2), .l (foundC c.I f.I w.L).2])
       (.ite (decide ((foundC c.I f.I w.L).1 = 5)) (.leaf [.i 0, .i 5]) (.leaf [.i 0, .i 9])))
 | _ => .fail
def G28x (ds : List D) : T (List D) := match ds with
 | [l, m] => .need (yes (jobsOk l.L = true ∧ 0 ≤ m.I ∧ m.I ≤ 10000)) (.ite (bestAll l.L m.I).isSome (.leaf [.l (mkI (bitsL (ix ((bestAll l.L m.I).getD []) 0).toNat)), .i 0]) (.leaf [.l [], .i 5]))
 | _ => .fail
def G29x (ds : List D) : T (List D) := match ds with
 | [l, m, ch] => .need (yes (((jobsOk l.L = true ∧ (0 ≤ m.I ∧ m.I ≤ 10000)) ∧ ch.L.length ≤ 20 ∧ allFrom (choAt l.L ch.L) 0 ch.L.length = true) ∧ worthOk l.L m.I (setTo ch.L ch.L.length) = true))
     (.leaf [.i (worthOf l.L (setTo ch.L ch.L.length)).1, .i (worthOf l.L (setTo ch.L ch.L.length)).2.1, .i 0])
 | _ => .fail
def G30x (ds : List D) : T (List D) := match ds with
 | [c, f, w, du, _, _, _, car, k] => .need (yes (du.L.length < big ∧ dueB c.I f.I w.L du.L car.I k.I = true)) (.leaf [.i (dueF w.L du.L car.I k.I.toNat), .i (dueF w.L du.L car.I k.I.toNat + ix (w.L.getD k.I.toNat []) 0), .i 0])
 | _ => .fail
def fndT (c f : Int) (w du cl op ch : List (List D)) (lo n n1 n2 n3 : Int) : Prop := planB c f w = true ∧ carOK w ch ∧ duesOk c f w ch = true ∧ du = rowP c f w ch ∧ cl = clR c f w ch ∧ op = opR c f w ch ∧ lo = 1 ∧ n = w.length + 1 ∧ n1 = w.length ∧ n2 = w.length ∧ n3 = w.length
def G5_6 (ds : List D) : T (Ex × List D) := match ds with
 | [jobs, ta, re, legs, tk, j, c, f, w, lo, n, n1, n2, n3, du, cl, op, ch] => .need (yes (fndT c.I f.I w.L du.L cl.L op.L ch.L lo.I n.I n1.I n2.I n3.I ∧ needsW jobs.L ∧ 1 ≤ j.I ∧ j.I ≤ w.L.length))
     (.leaf (.exit 0, [.i ta.I, .i re.I, .l legs.L, .l tk.L]))
 | _ => .fail
def takeB (legs tk : List (List D)) (k : Nat) : Bool := decide (leastOf legs k ≤ rgI tk k) && decide (rgI tk k ≤ mostOf legs k)
def G5_24 (ds : List D) : T (Ex × List D) := match ds with
 | [ta, re, legs, tk, n, now, i, l] => .need (yes (((tankP ta.I re.I re.I legs.L ∧ fuelOk ta.I re.I re.I legs.L = true) ∧ l.L = outs legs.L re.I re.I ∧ n.I = legs.L.length) ∧ legs.L.length ≤ tk.L.length ∧ 0 ≤ i.I ∧ i.I ≤ legs.L.length ∧ levP ta.I re.I legs.L l.L i.I.toNat now.I))
     (.ite (allFrom (takeB legs.L tk.L) i.I.toNat (legs.L.length - i.I.toNat)) (.leaf (.exit 2, [.i ta.I, .i re.I, .l legs.L, .i n.I, .l l.L])) (.leaf (.ret, [.b true])))
 | _ => .fail
end
noncomputable def sp5 : SpL := [(24, mkF s24 G24), (25, mkF s25 G25), (26, mkF s26 G2026), (27, mkF s27 G27), (28, mkF s28 G28x), (29, mkF s29 G29x), (30, mkF s30 G30x), (13, mkF s13 G13), (14, mkF s14 G14w), (31, mkF s31 G31)]
noncomputable def lp5 : LpL := [(6, mkL l5_6 G5_6), (24, mkL l5_24 G5_24)]
noncomputable def sw5 : SwL := []
noncomputable def tab5 : Tab := mkTab sp5 lp5 sw5
set_option linter.unusedVariables false
set_option maxRecDepth 100000
theorem t5 (a b c d e f g h : D) : (fnT C tab5 5 s5 [a, b, c, d, e, f, g, h]).run =
 T.run (T.ite (!planS a.I b.I c.L) (T.leaf [D.b true]) (T.ite (decide ((d.L.length : Int) > (12 : Int))) (T.leaf [D.b true]) (T.ite (decide ((g.L.length : Int) > (10 : Int))) (T.leaf [D.b true]) (T.ite (decide ((h.L.length : Int) < (g.L.length : Int))) (T.leaf [D.b true]) (T.ite (decide ((h.L.length : Int) > (60 : Int))) (T.leaf [D.b true]) (T.need (yes (planB a.I b.I c.L = true ∧ fewC c.L)) (T.ite (decide ((foundC a.I b.I c.L).fst = (0 : Int))) (T.need (yes (fndT a.I b.I c.L (rowP a.I b.I c.L (foundC a.I b.I c.L).snd) (clR a.I b.I c.L (foundC a.I b.I c.L).snd) (opR a.I b.I c.L (foundC a.I b.I c.L).snd) (foundC a.I b.I c.L).snd (↑(Int.toNat (1 : Int)) : Int) (↑(Int.toNat (↑(c.L.length + 1) : Int)) : Int) (↑(Int.toNat (c.L.length : Int)) : Int) (↑(Int.toNat (c.L.length : Int)) : Int) (↑(Int.toNat (c.L.length : Int)) : Int) ∧ needsW d.L ∧ (1 : Int) ≤ (1 : Int) ∧ (1 : Int) ≤ (c.L.length : Int))) (T.ite (!tankOk e.I f.I f.I g.L) (T.leaf [D.b true]) (T.need (yes (tankP e.I f.I f.I g.L)) (T.ite (fuelOk e.I f.I f.I g.L) (T.need (yes (((tankP e.I f.I f.I g.L ∧ fuelOk e.I f.I f.I g.L = true) ∧ outs g.L f.I f.I = outs g.L f.I f.I ∧ (↑(Int.toNat (g.L.length : Int)) : Int) = (g.L.length : Int)) ∧ g.L.length ≤ h.L.length ∧ (0 : Int) ≤ (0 : Int) ∧ (0 : Int) ≤ (g.L.length : Int) ∧ levP e.I f.I g.L (outs g.L f.I f.I) (Int.toNat (0 : Int)) f.I)) (T.ite (allFrom (takeB g.L h.L) (Int.toNat (0 : Int)) (g.L.length - Int.toNat (0 : Int))) (T.need (decide (Int.toNat (↑(Int.toNat (g.L.length : Int)) : Int) ≤ List.length (outs g.L f.I f.I))) (T.need (yes (g.L.length < big ∧ List.length (List.take (Int.toNat (↑(Int.toNat (g.L.length : Int)) : Int)) (outs g.L f.I f.I)) < big)) (T.ite (tankOk e.I f.I f.I g.L && decide (List.length (List.take (Int.toNat (↑(Int.toNat (g.L.length : Int)) : Int)) (outs g.L f.I f.I)) = g.L.length) && allFrom (amOk g.L (List.take (Int.toNat (↑(Int.toNat (g.L.length : Int)) : Int)) (outs g.L f.I f.I))) 0 (List.length (List.take (Int.toNat (↑(Int.toNat (g.L.length : Int)) : Int)) (outs g.L f.I f.I))) && safeFrom e.I f.I g.L (List.take (Int.toNat (↑(Int.toNat (g.L.length : Int)) : Int)) (outs g.L f.I f.I)) 0 g.L.length f.I f.I) (T.leaf [D.b true]) (T.leaf [D.b false])))) (T.leaf [D.b true]))) (T.leaf [D.b true]))))) (T.ite (decide ((foundC a.I b.I c.L).fst = (5 : Int))) (T.ite (!tankOk e.I f.I f.I g.L) (T.leaf [D.b true]) (T.need (yes (tankP e.I f.I f.I g.L)) (T.ite (fuelOk e.I f.I f.I g.L) (T.need (yes (((tankP e.I f.I f.I g.L ∧ fuelOk e.I f.I f.I g.L = true) ∧ outs g.L f.I f.I = outs g.L f.I f.I ∧ (↑(Int.toNat (g.L.length : Int)) : Int) = (g.L.length : Int)) ∧ g.L.length ≤ h.L.length ∧ (0 : Int) ≤ (0 : Int) ∧ (0 : Int) ≤ (g.L.length : Int) ∧ levP e.I f.I g.L (outs g.L f.I f.I) (Int.toNat (0 : Int)) f.I)) (T.ite (allFrom (takeB g.L h.L) (Int.toNat (0 : Int)) (g.L.length - Int.toNat (0 : Int))) (T.need (decide (Int.toNat (↑(Int.toNat (g.L.length : Int)) : Int) ≤ List.length (outs g.L f.I f.I))) (T.need (yes (g.L.length < big ∧ List.length (List.take (Int.toNat (↑(Int.toNat (g.L.length : Int)) : Int)) (outs g.L f.I f.I)) < big)) (T.ite (tankOk e.I f.I f.I g.L && decide (List.length (List.take (Int.toNat (↑(Int.toNat (g.L.length : Int)) : Int)) (outs g.L f.I f.I)) = g.L.length) && allFrom (amOk g.L (List.take (Int.toNat (↑(Int.toNat (g.L.length : Int)) : Int)) (outs g.L f.I f.I))) 0 (List.length (List.take (Int.toNat (↑(Int.toNat (g.L.length : Int)) : Int)) (outs g.L f.I f.I))) && safeFrom e.I f.I g.L (List.take (Int.toNat (↑(Int.toNat (g.L.length : Int)) : Int)) (outs g.L f.I f.I)) 0 g.L.length f.I f.I) (T.leaf [D.b true]) (T.leaf [D.b false])))) (T.leaf [D.b true]))) (T.leaf [D.b true])))) (T.ite (!tankOk e.I f.I f.I g.L) (T.leaf [D.b true]) (T.need (yes (tankP e.I f.I f.I g.L)) (T.ite (fuelOk e.I f.I f.I g.L) (T.need (yes (((tankP e.I f.I f.I g.L ∧ fuelOk e.I f.I f.I g.L = true) ∧ outs g.L f.I f.I = outs g.L f.I f.I ∧ (↑(Int.toNat (g.L.length : Int)) : Int) = (g.L.length : Int)) ∧ g.L.length ≤ h.L.length ∧ (0 : Int) ≤ (0 : Int) ∧ (0 : Int) ≤ (g.L.length : Int) ∧ levP e.I f.I g.L (outs g.L f.I f.I) (Int.toNat (0 : Int)) f.I)) (T.ite (allFrom (takeB g.L h.L) (Int.toNat (0 : Int)) (g.L.length - Int.toNat (0 : Int))) (T.need (decide (Int.toNat (↑(Int.toNat (g.L.length : Int)) : Int) ≤ List.length (outs g.L f.I f.I))) (T.need (yes (g.L.length < big ∧ List.length (List.take (Int.toNat (↑(Int.toNat (g.L.length : Int)) : Int)) (outs g.L f.I f.I)) < big)) (T.ite (tankOk e.I f.I f.I g.L && decide (List.length (List.take (Int.toNat (↑(Int.toNat (g.L.length : Int)) : Int)) (outs g.L f.I f.I)) = g.L.length) && allFrom (amOk g.L (List.take (Int.toNat (↑(Int.toNat (g.L.length : Int)) : Int)) (outs g.L f.I f.I))) 0 (List.length (List.take (Int.toNat (↑(Int.toNat (g.L.length : Int)) : Int)) (outs g.L f.I f.I))) && safeFrom e.I f.I g.L (List.take (Int.toNat (↑(Int.toNat (g.L.length : Int)) : Int)) (outs g.L f.I f.I)) 0 g.L.length f.I f.I) (T.leaf [D.b true]) (T.leaf [D.b false])))) (T.leaf [D.b true]))) (T.leaf [D.b true])))))))))))) := by kernel_rfl
theorem t5_6 (a b c d e f g h i j k l m n o p q r : D) : (roundT C tab5 5 (loopOf C.P 5 6) l5_6 [a, b, c, d, e, f, g, h, i, j, k, l, m, n, o, p, q, r]).run =
 T.run (T.ite (decide (f.I < (i.L.length : Int))) (T.need (decide ((0 : Int) ≤ f.I ∧ f.I < (i.L.length : Int))) (T.ite (!D.B (List.getD (List.getD i.L f.I.toNat []) (0 + 1 + 1 + 1 + 1) default)) (T.leaf (Rd.again [D.l a.L, D.i b.I, D.i c.I, D.l d.L, D.l e.L, D.i (IntKind.i64.wrap (f.I + (1 : Int))), D.i g.I, D.i h.I, D.l i.L, D.i (j.I.toNat : Int), D.i (k.I.toNat : Int), D.i (l.I.toNat : Int), D.i (m.I.toNat : Int), D.i (n.I.toNat : Int), D.l o.L, D.l p.L, D.l q.L, D.l r.L])) (T.need (yes (needsW a.L)) (T.ite (!(jobsOk a.L && within (D.I (List.getD (List.getD i.L f.I.toNat []) (0 + 1 + 1 + 1 + 1 + 1) default)) (0 : Int) (10000 : Int))) (T.leaf (Rd.again [D.l a.L, D.i b.I, D.i c.I, D.l d.L, D.l e.L, D.i (IntKind.i64.wrap (f.I + (1 : Int))), D.i g.I, D.i h.I, D.l i.L, D.i (j.I.toNat : Int), D.i (k.I.toNat : Int), D.i (l.I.toNat : Int), D.i (m.I.toNat : Int), D.i (n.I.toNat : Int), D.l o.L, D.l p.L, D.l q.L, D.l r.L])) (T.need (yes (jobsOk a.L = true ∧ (0 : Int) ≤ D.I (List.getD (List.getD i.L f.I.toNat []) (0 + 1 + 1 + 1 + 1 + 1) default) ∧ D.I (List.getD (List.getD i.L f.I.toNat []) (0 + 1 + 1 + 1 + 1 + 1) default) ≤ (10000 : Int))) (T.ite (Option.isSome (bestAll a.L (D.I (List.getD (List.getD i.L f.I.toNat []) (0 + 1 + 1 + 1 + 1 + 1) default)))) (T.need (yes (((jobsOk a.L = true ∧ (0 : Int) ≤ D.I (List.getD (List.getD i.L f.I.toNat []) (0 + 1 + 1 + 1 + 1 + 1) default) ∧ D.I (List.getD (List.getD i.L f.I.toNat []) (0 + 1 + 1 + 1 + 1 + 1) default) ≤ (10000 : Int)) ∧ List.length (mkI (bitsL (Int.toNat (ix (Option.getD (bestAll a.L (D.I (List.getD (List.getD i.L f.I.toNat []) (0 + 1 + 1 + 1 + 1 + 1) default))) []) 0)))) ≤ 20 ∧ allFrom (choAt a.L (mkI (bitsL (Int.toNat (ix (Option.getD (bestAll a.L (D.I (List.getD (List.getD i.L f.I.toNat []) (0 + 1 + 1 + 1 + 1 + 1) default))) []) 0))))) 0 (List.length (mkI (bitsL (Int.toNat (ix (Option.getD (bestAll a.L (D.I (List.getD (List.getD i.L f.I.toNat []) (0 + 1 + 1 + 1 + 1 + 1) default))) []) 0))))) = true) ∧ worthOk a.L (D.I (List.getD (List.getD i.L f.I.toNat []) (0 + 1 + 1 + 1 + 1 + 1) default)) (setTo (mkI (bitsL (Int.toNat (ix (Option.getD (bestAll a.L (D.I (List.getD (List.getD i.L f.I.toNat []) (0 + 1 + 1 + 1 + 1 + 1) default))) []) 0)))) (List.length (mkI (bitsL (Int.toNat (ix (Option.getD (bestAll a.L (D.I (List.getD (List.getD i.L f.I.toNat []) (0 + 1 + 1 + 1 + 1 + 1) default))) []) 0)))))) = true)) (T.need (decide (j.I.toNat + k.I.toNat ≤ o.L.length)) (T.need (decide (l.I.toNat ≤ p.L.length)) (T.need (decide (m.I.toNat ≤ q.L.length)) (T.need (decide (n.I.toNat ≤ r.L.length)) (T.need (yes (List.length (List.take k.I.toNat (List.drop j.I.toNat o.L)) < big ∧ dueB g.I h.I i.L (List.take k.I.toNat (List.drop j.I.toNat o.L)) (IntKind.i64.wrap (g.I - (1 : Int))) (IntKind.i64.wrap (f.I - (1 : Int))) = true)) (T.need (decide (j.I.toNat + k.I.toNat ≤ o.L.length)) (T.need (decide (l.I.toNat ≤ p.L.length)) (T.need (decide (m.I.toNat ≤ q.L.length)) (T.need (decide (n.I.toNat ≤ r.L.length)) (T.need (yes (List.length (List.take k.I.toNat (List.drop j.I.toNat o.L)) < big ∧ dueB g.I h.I i.L (List.take k.I.toNat (List.drop j.I.toNat o.L)) (0 : Int) f.I = true)) (T.ite (decide (IntKind.i64.wrap (dueF i.L (List.take k.I.toNat (List.drop j.I.toNat o.L)) (IntKind.i64.wrap (g.I - (1 : Int))) (Int.toNat (IntKind.i64.wrap (f.I - (1 : Int)))) + ix (List.getD i.L (Int.toNat (IntKind.i64.wrap (f.I - (1 : Int)))) []) 0 + (worthOf a.L (setTo (mkI (bitsL (Int.toNat (ix (Option.getD (bestAll a.L (D.I (List.getD (List.getD i.L f.I.toNat []) (0 + 1 + 1 + 1 + 1 + 1) default))) []) 0)))) (List.length (mkI (bitsL (Int.toNat (ix (Option.getD (bestAll a.L (D.I (List.getD (List.getD i.L f.I.toNat []) (0 + 1 + 1 + 1 + 1 + 1) default))) []) 0))))))).snd.fst) > dueF i.L (List.take k.I.toNat (List.drop j.I.toNat o.L)) (0 : Int) f.I.toNat)) (T.leaf (Rd.out Ex.ret [D.b false])) (T.leaf (Rd.again [D.l a.L, D.i b.I, D.i c.I, D.l d.L, D.l e.L, D.i (IntKind.i64.wrap (f.I + (1 : Int))), D.i g.I, D.i h.I, D.l i.L, D.i (j.I.toNat : Int), D.i (k.I.toNat : Int), D.i (l.I.toNat : Int), D.i (m.I.toNat : Int), D.i (n.I.toNat : Int), D.l o.L, D.l p.L, D.l q.L, D.l r.L])))))))))))))) (T.leaf (Rd.again [D.l a.L, D.i b.I, D.i c.I, D.l d.L, D.l e.L, D.i (IntKind.i64.wrap (f.I + (1 : Int))), D.i g.I, D.i h.I, D.l i.L, D.i (j.I.toNat : Int), D.i (k.I.toNat : Int), D.i (l.I.toNat : Int), D.i (m.I.toNat : Int), D.i (n.I.toNat : Int), D.l o.L, D.l p.L, D.l q.L, D.l r.L])))))))) (T.leaf (Rd.out (Ex.exit 0) [D.i b.I, D.i c.I, D.l d.L, D.l e.L]))) := by kernel_rfl
theorem t5_24 (a b c d e f g h : D) : (roundT C tab5 5 (loopOf C.P 5 24) l5_24 [a, b, c, d, e, f, g, h]).run =
 T.run (T.ite (decide (g.I < (c.L.length : Int))) (T.ite (decide (g.I ≥ (e.I.toNat : Int))) (T.ite (decide (g.I < (e.I.toNat : Int))) (T.leaf (Rd.out Ex.ret [D.b true])) (T.leaf (Rd.out Ex.ret [D.b false]))) (T.need (decide ((0 : Int) ≤ g.I ∧ g.I < (d.L.length : Int))) (T.need (decide ((0 : Int) ≤ g.I ∧ g.I < (c.L.length : Int))) (T.ite (decide (D.I (List.getD (List.getD d.L g.I.toNat []) 0 default) < D.I (List.getD (List.getD c.L g.I.toNat []) 0 default))) (T.ite (decide (g.I < (e.I.toNat : Int))) (T.leaf (Rd.out Ex.ret [D.b true])) (T.leaf (Rd.out Ex.ret [D.b false]))) (T.need (decide ((0 : Int) ≤ g.I ∧ g.I < (d.L.length : Int))) (T.need (decide ((0 : Int) ≤ g.I ∧ g.I < (c.L.length : Int))) (T.ite (decide (D.I (List.getD (List.getD d.L g.I.toNat []) 0 default) > D.I (List.getD (List.getD c.L g.I.toNat []) (0 + 1) default))) (T.ite (decide (g.I < (e.I.toNat : Int))) (T.leaf (Rd.out Ex.ret [D.b true])) (T.leaf (Rd.out Ex.ret [D.b false]))) (T.need (decide ((0 : Int) ≤ g.I ∧ g.I < (e.I.toNat : Int))) (T.need (decide (g.I.toNat < h.L.length)) (T.ite (decide (IntKind.i64.wrap (f.I + D.I (List.getD (List.getD h.L g.I.toNat []) 0 default)) > a.I)) (T.leaf (Rd.out Ex.ret [D.b false])) (T.need (decide ((0 : Int) ≤ g.I ∧ g.I < (d.L.length : Int))) (T.ite (decide (IntKind.i64.wrap (IntKind.i64.wrap (f.I + D.I (List.getD (List.getD h.L g.I.toNat []) 0 default)) - D.I (List.getD (List.getD d.L g.I.toNat []) 0 default)) < b.I)) (T.leaf (Rd.out Ex.ret [D.b false])) (T.leaf (Rd.again [D.i a.I, D.i b.I, D.l c.L, D.l d.L, D.i (e.I.toNat : Int), D.i (IntKind.i64.wrap (IntKind.i64.wrap (f.I + D.I (List.getD (List.getD h.L g.I.toNat []) 0 default)) - D.I (List.getD (List.getD d.L g.I.toNat []) 0 default))), D.i (IntKind.i64.wrap (g.I + (1 : Int))), D.l h.L])))))))))))))) (T.leaf (Rd.out (Ex.exit 2) [D.i a.I, D.i b.I, D.l c.L, D.i (e.I.toNat : Int), D.l h.L]))) := by kernel_rfl
noncomputable def sp71 : SpL := [(163, mkF s163 G163), (166, mkF s166 G166), (167, mkF s167 G167)]
noncomputable def lp71 : LpL := [(4, mkLK 3 l71_4 G71_4), (9, mkLK 3 l71_9 G71_9)]
noncomputable def sw71 : SwL := [(113, mkFW s113 G113), (114, mkFW s114 G114)]
noncomputable def tab71 : Tab := mkTab sp71 lp71 sw71
noncomputable def sp72 : SpL := [(115, mkF s115 Gcl1), (85, mkF s85 G85)]
noncomputable def lp72 : LpL := [(3, mkLK 1 l72_3 G72_3)]
noncomputable def sw72 : SwL := []
noncomputable def tab72 : Tab := mkTab sp72 lp72 sw72
noncomputable def sp115 : SpL := []
noncomputable def lp115 : LpL := []
noncomputable def sw115 : SwL := []
noncomputable def tab115 : Tab := mkTab sp115 lp115 sw115
set_option linter.unusedVariables false
set_option maxRecDepth 100000
theorem t71 (a b c d : D) : fnTD C tab71 3 71 s71 [a, b, c, d] =
 T.need (yes (planB a.I b.I c.L = true ∧ chOK c.L d.L)) (T.need (yes ((↑0 : Int) = (0 : Int) ∧ planB a.I b.I c.L = true ∧ rulesV c.L (rulesP b.I c.L d.L) ∧ (↑(Int.toNat (↑(List.length (rulesP b.I c.L d.L)) : Int)) : Int) = (↑(List.length (rulesP b.I c.L d.L)) : Int) ∧ (↑(Int.toNat (↑(List.length (rulesP b.I c.L d.L)) : Int)) : Int) = (↑(List.length (rulesP b.I c.L d.L)) : Int) ∧ (0 : Int) = (0 : Int) ∧ 0 < List.length (rulesP b.I c.L d.L))) (T.ite (allFrom (rulesK a.I c.L (rulesP b.I c.L d.L)) 0 (List.length (rulesP b.I c.L d.L))) (T.need (yes ((↑(0 + 1) : Int) = (1 : Int) ∧ (0 : Int) ≤ (0 : Int) ∧ (0 : Int) ≤ IntKind.i64.wrap ((c.L.length : Int) + (2 : Int)) ∧ IntKind.i64.wrap ((c.L.length : Int) + (2 : Int)) ≤ (500 : Int) ∧ (↑(Int.toNat (↑(List.length (linksU a.I c.L (rulesP b.I c.L d.L) 0 (List.length (rulesP b.I c.L d.L)))) : Int)) : Int) = (↑(List.length (linksU a.I c.L (rulesP b.I c.L d.L) 0 (List.length (rulesP b.I c.L d.L)))) : Int) ∧ (↑(List.length (linksU a.I c.L (rulesP b.I c.L d.L) 0 (List.length (rulesP b.I c.L d.L)))) : Int) + (IntKind.i64.wrap ((c.L.length : Int) + (2 : Int)) - (0 : Int)) ≤ (5500 : Int))) (T.need (decide ((0 : Int) ≤ IntKind.i64.wrap ((c.L.length : Int) + (2 : Int)) ∧ IntKind.i64.wrap ((c.L.length : Int) + (2 : Int)) = IntKind.i64.wrap ((c.L.length : Int) + (2 : Int)) ∧ IntKind.i64.wrap ((c.L.length : Int) + (2 : Int)) ≤ (2 : Int) ^ 40 ∧ (↑Try.prog.types[3].bytes : Int) * IntKind.i64.wrap ((c.L.length : Int) + (2 : Int)) ≤ (2 : Int) ^ 46)) (T.need (decide ((0 : Int) ≤ (1 : Int) ∧ (1 : Int) ≤ (↑(List.length (List.replicate (Int.toNat (IntKind.i64.wrap ((c.L.length : Int) + (2 : Int)))) [D.i 0])) : Int))) (T.need (decide (Int.toNat (1 : Int) + (List.length (List.replicate (Int.toNat (IntKind.i64.wrap ((c.L.length : Int) + (2 : Int)))) [D.i 0]) - Int.toNat (1 : Int)) ≤ List.length (List.replicate (Int.toNat (IntKind.i64.wrap ((c.L.length : Int) + (2 : Int)))) [D.i 0]))) (T.need (decide (Int.toNat (↑(List.length (linksU a.I c.L (rulesP b.I c.L d.L) 0 (List.length (rulesP b.I c.L d.L)) ++ extraF (Int.toNat (0 : Int)) (Int.toNat (IntKind.i64.wrap ((c.L.length : Int) + (2 : Int)) - (0 : Int))))) : Int) ≤ List.length (linksU a.I c.L (rulesP b.I c.L d.L) 0 (List.length (rulesP b.I c.L d.L)) ++ extraF (Int.toNat (0 : Int)) (Int.toNat (IntKind.i64.wrap ((c.L.length : Int) + (2 : Int)) - (0 : Int)))))) (T.need (yes (goodL (IntKind.i64.wrap ((c.L.length : Int) + (2 : Int))) (List.take (Int.toNat (↑(List.length (linksU a.I c.L (rulesP b.I c.L d.L) 0 (List.length (rulesP b.I c.L d.L)) ++ extraF (Int.toNat (0 : Int)) (Int.toNat (IntKind.i64.wrap ((c.L.length : Int) + (2 : Int)) - (0 : Int))))) : Int)) (linksU a.I c.L (rulesP b.I c.L d.L) 0 (List.length (rulesP b.I c.L d.L)) ++ extraF (Int.toNat (0 : Int)) (Int.toNat (IntKind.i64.wrap ((c.L.length : Int) + (2 : Int)) - (0 : Int))))) ∧ (↑(List.length (List.replicate (Int.toNat (IntKind.i64.wrap ((c.L.length : Int) + (2 : Int)))) [D.i 0])) : Int) = IntKind.i64.wrap ((c.L.length : Int) + (2 : Int)) ∧ (↑(List.length (cpy (List.replicate (Int.toNat (IntKind.i64.wrap ((c.L.length : Int) + (2 : Int)))) [D.i 0]) [] (Int.toNat (1 : Int)) (List.length (List.replicate (Int.toNat (IntKind.i64.wrap ((c.L.length : Int) + (2 : Int)))) [D.i 0]) - Int.toNat (1 : Int)))) : Int) = IntKind.i64.wrap ((c.L.length : Int) + (2 : Int)) ∧ bndR (cpy (List.replicate (Int.toNat (IntKind.i64.wrap ((c.L.length : Int) + (2 : Int)))) [D.i 0]) [] (Int.toNat (1 : Int)) (List.length (List.replicate (Int.toNat (IntKind.i64.wrap ((c.L.length : Int) + (2 : Int)))) [D.i 0]) - Int.toNat (1 : Int))) (1099511627776 : Int))) (T.ite (decide ((pushR (IntKind.i64.wrap ((c.L.length : Int) + (2 : Int))) (List.take (Int.toNat (↑(List.length (linksU a.I c.L (rulesP b.I c.L d.L) 0 (List.length (rulesP b.I c.L d.L)) ++ extraF (Int.toNat (0 : Int)) (Int.toNat (IntKind.i64.wrap ((c.L.length : Int) + (2 : Int)) - (0 : Int))))) : Int)) (linksU a.I c.L (rulesP b.I c.L d.L) 0 (List.length (rulesP b.I c.L d.L)) ++ extraF (Int.toNat (0 : Int)) (Int.toNat (IntKind.i64.wrap ((c.L.length : Int) + (2 : Int)) - (0 : Int))))) (cpy (List.replicate (Int.toNat (IntKind.i64.wrap ((c.L.length : Int) + (2 : Int)))) [D.i 0]) [] (Int.toNat (1 : Int)) (List.length (List.replicate (Int.toNat (IntKind.i64.wrap ((c.L.length : Int) + (2 : Int)))) [D.i 0]) - Int.toNat (1 : Int)))).snd.snd ≥ (0 : Int))) (T.leaf [D.i 0, D.b false]) (T.need (decide ((0 : Int) ≤ (0 : Int) ∧ (0 : Int) < (↑(List.length (List.replicate (Int.toNat (IntKind.i64.wrap ((c.L.length : Int) + (2 : Int)))) [D.i 0])) : Int))) (T.need (decide (Int.toNat (0 : Int) < List.length (pushR (IntKind.i64.wrap ((c.L.length : Int) + (2 : Int))) (List.take (Int.toNat (↑(List.length (linksU a.I c.L (rulesP b.I c.L d.L) 0 (List.length (rulesP b.I c.L d.L)) ++ extraF (Int.toNat (0 : Int)) (Int.toNat (IntKind.i64.wrap ((c.L.length : Int) + (2 : Int)) - (0 : Int))))) : Int)) (linksU a.I c.L (rulesP b.I c.L d.L) 0 (List.length (rulesP b.I c.L d.L)) ++ extraF (Int.toNat (0 : Int)) (Int.toNat (IntKind.i64.wrap ((c.L.length : Int) + (2 : Int)) - (0 : Int))))) (cpy (List.replicate (Int.toNat (IntKind.i64.wrap ((c.L.length : Int) + (2 : Int)))) [D.i 0]) [] (Int.toNat (1 : Int)) (List.length (List.replicate (Int.toNat (IntKind.i64.wrap ((c.L.length : Int) + (2 : Int)))) [D.i 0]) - Int.toNat (1 : Int)))).fst)) (T.ite (D.I (List.getD (List.getD (pushR (IntKind.i64.wrap ((c.L.length : Int) + (2 : Int))) (List.take (Int.toNat (↑(List.length (linksU a.I c.L (rulesP b.I c.L d.L) 0 (List.length (rulesP b.I c.L d.L)) ++ extraF (Int.toNat (0 : Int)) (Int.toNat (IntKind.i64.wrap ((c.L.length : Int) + (2 : Int)) - (0 : Int))))) : Int)) (linksU a.I c.L (rulesP b.I c.L d.L) 0 (List.length (rulesP b.I c.L d.L)) ++ extraF (Int.toNat (0 : Int)) (Int.toNat (IntKind.i64.wrap ((c.L.length : Int) + (2 : Int)) - (0 : Int))))) (cpy (List.replicate (Int.toNat (IntKind.i64.wrap ((c.L.length : Int) + (2 : Int)))) [D.i 0]) [] (Int.toNat (1 : Int)) (List.length (List.replicate (Int.toNat (IntKind.i64.wrap ((c.L.length : Int) + (2 : Int)))) [D.i 0]) - Int.toNat (1 : Int)))).fst (Int.toNat (0 : Int)) []) 0 default) != (0 : Int)) (T.leaf [D.i 0, D.b false]) (T.need (decide ((0 : Int) ≤ (1 : Int) ∧ (1 : Int) ≤ (↑(List.length (List.replicate (Int.toNat (IntKind.i64.wrap ((c.L.length : Int) + (2 : Int)))) [D.i 0])) : Int))) (T.leaf [D.i 1, D.i 1, D.i (↑(List.length (List.replicate (Int.toNat (IntKind.i64.wrap ((c.L.length : Int) + (2 : Int)))) [D.i 0]) - Int.toNat (1 : Int)) : Int), D.b true, D.l (pushR (IntKind.i64.wrap ((c.L.length : Int) + (2 : Int))) (List.take (Int.toNat (↑(List.length (linksU a.I c.L (rulesP b.I c.L d.L) 0 (List.length (rulesP b.I c.L d.L)) ++ extraF (Int.toNat (0 : Int)) (Int.toNat (IntKind.i64.wrap ((c.L.length : Int) + (2 : Int)) - (0 : Int))))) : Int)) (linksU a.I c.L (rulesP b.I c.L d.L) 0 (List.length (rulesP b.I c.L d.L)) ++ extraF (Int.toNat (0 : Int)) (Int.toNat (IntKind.i64.wrap ((c.L.length : Int) + (2 : Int)) - (0 : Int))))) (cpy (List.replicate (Int.toNat (IntKind.i64.wrap ((c.L.length : Int) + (2 : Int)))) [D.i 0]) [] (Int.toNat (1 : Int)) (List.length (List.replicate (Int.toNat (IntKind.i64.wrap ((c.L.length : Int) + (2 : Int)))) [D.i 0]) - Int.toNat (1 : Int)))).fst])))))))))))) (T.ite true (T.leaf [D.i 0, D.b false]) (T.leaf [D.i 0, D.b false])))) := by kernel_rfl
theorem t71_4_0 (a b c d e f g h i : D) : roundTK C tab71 71 (loopOf C.P 71 4) 3 l71_4 [.i 0, a, b, c, d, e, f, g, h, i] =
 T.ite (decide (c.I < b.I)) (T.need (decide ((0 : Int) ≤ c.I ∧ c.I < (a.I.toNat : Int))) (T.need (decide (c.I.toNat < i.L.length)) (T.ite (decide (D.I (List.getD (List.getD (D.L (List.getD (List.getD i.L c.I.toNat []) 0 default)) 0 []) 0 default) = (↑0 : Int))) (T.need true (T.ite false (T.leaf (Rd.again [D.i 0, D.i (a.I.toNat : Int), D.i b.I, D.i (IntKind.i64.wrap (c.I + (1 : Int))), D.i d.I, D.i e.I, D.l f.L, D.b g.B, D.i h.I, D.l i.L])) (T.need true (T.leaf (Rd.again [D.i 1, D.i (a.I.toNat : Int), D.i b.I, D.i (IntKind.i64.wrap (c.I + (1 : Int))), D.i d.I, D.i e.I, D.l f.L, D.b g.B, D.i h.I, D.i 1, D.l i.L, D.l [[D.i 0, D.i 1, D.i (D.I (List.getD (List.getD (D.L (List.getD (List.getD i.L c.I.toNat []) 0 default)) 0 []) 1 default))]]]))))) (T.ite (decide (D.I (List.getD (List.getD (D.L (List.getD (List.getD i.L c.I.toNat []) 0 default)) 0 []) 0 default) = (↑(0 + 1) : Int))) (T.need (yes (planB d.I e.I f.L = true ∧ (1 : Int) ≤ D.I (List.getD (List.getD (D.L (List.getD (List.getD i.L c.I.toNat []) 0 default)) 0 []) 1 default) ∧ D.I (List.getD (List.getD (D.L (List.getD (List.getD i.L c.I.toNat []) 0 default)) 0 []) 1 default) ≤ (f.L.length : Int))) (T.need true (T.ite false (T.leaf (Rd.again [D.i 0, D.i (a.I.toNat : Int), D.i b.I, D.i (IntKind.i64.wrap (c.I + (1 : Int))), D.i d.I, D.i e.I, D.l f.L, D.b g.B, D.i h.I, D.l i.L])) (T.need true (T.leaf (Rd.again [D.i 1, D.i (a.I.toNat : Int), D.i b.I, D.i (IntKind.i64.wrap (c.I + (1 : Int))), D.i d.I, D.i e.I, D.l f.L, D.b g.B, D.i h.I, D.i 2, D.l i.L, D.l [[D.i ((↑(Int.toNat (D.I (List.getD (List.getD (D.L (List.getD (List.getD i.L c.I.toNat []) 0 default)) 0 []) 1 default) - (1 : Int))) : Int) + (1 : Int)), D.i ((↑(Int.toNat (D.I (List.getD (List.getD (D.L (List.getD (List.getD i.L c.I.toNat []) 0 default)) 0 []) 1 default) - (1 : Int))) : Int) + (2 : Int)), D.i (leW d.I f.L (Int.toNat (D.I (List.getD (List.getD (D.L (List.getD (List.getD i.L c.I.toNat []) 0 default)) 0 []) 1 default) - (1 : Int))))], [D.i ((↑(Int.toNat (D.I (List.getD (List.getD (D.L (List.getD (List.getD i.L c.I.toNat []) 0 default)) 0 []) 1 default) - (1 : Int))) : Int) + (2 : Int)), D.i ((↑(Int.toNat (D.I (List.getD (List.getD (D.L (List.getD (List.getD i.L c.I.toNat []) 0 default)) 0 []) 1 default) - (1 : Int))) : Int) + (1 : Int)), D.i (-moW d.I f.L (Int.toNat (D.I (List.getD (List.getD (D.L (List.getD (List.getD i.L c.I.toNat []) 0 default)) 0 []) 1 default) - (1 : Int))))]]])))))) (T.need (decide (D.I (List.getD (List.getD (D.L (List.getD (List.getD i.L c.I.toNat []) 0 default)) 0 []) 0 default) = (↑(0 + 1 + 1) : Int))) (T.need (yes (planB d.I e.I f.L = true ∧ (0 : Int) ≤ D.I (List.getD (List.getD (D.L (List.getD (List.getD i.L c.I.toNat []) 0 default)) 0 []) 1 default) ∧ D.I (List.getD (List.getD (D.L (List.getD (List.getD i.L c.I.toNat []) 0 default)) 0 []) 1 default) < (f.L.length : Int) ∧ winOk (D.L (List.getD (List.getD (D.L (List.getD (List.getD i.L c.I.toNat []) 0 default)) 0 []) (1 + 1) default)))) (T.ite (List.isEmpty (D.L (List.getD (List.getD (D.L (List.getD (List.getD i.L c.I.toNat []) 0 default)) 0 []) (1 + 1) default))) (T.need true (T.ite false (T.leaf (Rd.again [D.i 0, D.i (a.I.toNat : Int), D.i b.I, D.i (IntKind.i64.wrap (c.I + (1 : Int))), D.i d.I, D.i e.I, D.l f.L, D.b g.B, D.i h.I, D.l i.L])) (T.need true (T.leaf (Rd.again [D.i 1, D.i (a.I.toNat : Int), D.i b.I, D.i (IntKind.i64.wrap (c.I + (1 : Int))), D.i d.I, D.i e.I, D.l f.L, D.b g.B, D.i h.I, D.i 1, D.l i.L, D.l [[D.i 0, D.i (D.I (List.getD (List.getD (D.L (List.getD (List.getD i.L c.I.toNat []) 0 default)) 0 []) 1 default) + (1 : Int)), D.i (ix (List.getD f.L (Int.toNat (D.I (List.getD (List.getD (D.L (List.getD (List.getD i.L c.I.toNat []) 0 default)) 0 []) 1 default))) []) 1)]]]))))) (T.ite (decide (ix (List.getD f.L (Int.toNat (D.I (List.getD (List.getD (D.L (List.getD (List.getD i.L c.I.toNat []) 0 default)) 0 []) 1 default))) []) 1 + busyF d.I (List.getD f.L (Int.toNat (D.I (List.getD (List.getD (D.L (List.getD (List.getD i.L c.I.toNat []) 0 default)) 0 []) 1 default))) []) > ix (List.getD (D.L (List.getD (List.getD (D.L (List.getD (List.getD i.L c.I.toNat []) 0 default)) 0 []) (1 + 1) default)) 0 []) 2)) (T.leaf (Rd.out (Ex.pan 204) [D.i d.I, D.i e.I, D.l f.L, D.b g.B])) (T.need true (T.ite false (T.leaf (Rd.again [D.i 0, D.i (a.I.toNat : Int), D.i b.I, D.i (IntKind.i64.wrap (c.I + (1 : Int))), D.i d.I, D.i e.I, D.l f.L, D.b g.B, D.i h.I, D.l i.L])) (T.need true (T.leaf (Rd.again [D.i 1, D.i (a.I.toNat : Int), D.i b.I, D.i (IntKind.i64.wrap (c.I + (1 : Int))), D.i d.I, D.i e.I, D.l f.L, D.b g.B, D.i h.I, D.i 2, D.l i.L, D.l [[D.i 0, D.i (D.I (List.getD (List.getD (D.L (List.getD (List.getD i.L c.I.toNat []) 0 default)) 0 []) 1 default) + (1 : Int)), D.i (ix (List.getD f.L (Int.toNat (D.I (List.getD (List.getD (D.L (List.getD (List.getD i.L c.I.toNat []) 0 default)) 0 []) 1 default))) []) 1 + ix (List.getD (D.L (List.getD (List.getD (D.L (List.getD (List.getD i.L c.I.toNat []) 0 default)) 0 []) (1 + 1) default)) 0 []) 0)], [D.i (D.I (List.getD (List.getD (D.L (List.getD (List.getD i.L c.I.toNat []) 0 default)) 0 []) 1 default) + (1 : Int)), D.i 0, D.i (busyF d.I (List.getD f.L (Int.toNat (D.I (List.getD (List.getD (D.L (List.getD (List.getD i.L c.I.toNat []) 0 default)) 0 []) 1 default))) []) - ix (List.getD (D.L (List.getD (List.getD (D.L (List.getD (List.getD i.L c.I.toNat []) 0 default)) 0 []) (1 + 1) default)) 0 []) 1)]]]))))))))))))) (T.leaf (Rd.out (Ex.exit 0) [D.i 0, D.i d.I, D.i e.I, D.l f.L, D.b g.B, D.i h.I])) := by kernel_rfl
theorem t71_4_1 (a b c d e f g h i j k : D) : roundTK C tab71 71 (loopOf C.P 71 4) 3 l71_4 [.i 1, a, b, c, d, e, f, g, h, i, j, k] =
 T.ite (decide (c.I < b.I)) (T.need (decide ((0 : Int) ≤ c.I ∧ c.I < (a.I.toNat : Int))) (T.need (decide (c.I.toNat < j.L.length)) (T.ite (decide (D.I (List.getD (List.getD (D.L (List.getD (List.getD j.L c.I.toNat []) 0 default)) 0 []) 0 default) = (↑0 : Int))) (T.need true (T.ite false (T.leaf (Rd.again [D.i 1, D.i (a.I.toNat : Int), D.i b.I, D.i (IntKind.i64.wrap (c.I + (1 : Int))), D.i d.I, D.i e.I, D.l f.L, D.b g.B, D.i h.I, D.i (i.I.toNat : Int), D.l j.L, D.l k.L])) (T.need (decide (i.I.toNat ≤ k.L.length ∧ i.I.toNat + 1 ≤ 2 ^ 62 ∧ (i.I.toNat + 1) * Try.prog.types[139].bytes ≤ 2 ^ 47)) (T.leaf (Rd.again [D.i 1, D.i (a.I.toNat : Int), D.i b.I, D.i (IntKind.i64.wrap (c.I + (1 : Int))), D.i d.I, D.i e.I, D.l f.L, D.b g.B, D.i h.I, D.i (↑(i.I.toNat + 1) : Int), D.l j.L, D.l (List.take i.I.toNat k.L ++ List.take (Int.toNat (1 : Int)) [lk3 (0 : Int) (1 : Int) (D.I (List.getD (List.getD (D.L (List.getD (List.getD j.L c.I.toNat []) 0 default)) 0 []) 1 default))])]))))) (T.ite (decide (D.I (List.getD (List.getD (D.L (List.getD (List.getD j.L c.I.toNat []) 0 default)) 0 []) 0 default) = (↑(0 + 1) : Int))) (T.need (yes (planB d.I e.I f.L = true ∧ (1 : Int) ≤ D.I (List.getD (List.getD (D.L (List.getD (List.getD j.L c.I.toNat []) 0 default)) 0 []) 1 default) ∧ D.I (List.getD (List.getD (D.L (List.getD (List.getD j.L c.I.toNat []) 0 default)) 0 []) 1 default) ≤ (f.L.length : Int))) (T.need true (T.ite false (T.leaf (Rd.again [D.i 1, D.i (a.I.toNat : Int), D.i b.I, D.i (IntKind.i64.wrap (c.I + (1 : Int))), D.i d.I, D.i e.I, D.l f.L, D.b g.B, D.i h.I, D.i (i.I.toNat : Int), D.l j.L, D.l k.L])) (T.need (decide (i.I.toNat ≤ k.L.length ∧ i.I.toNat + 2 ≤ 2 ^ 62 ∧ (i.I.toNat + 2) * Try.prog.types[139].bytes ≤ 2 ^ 47)) (T.leaf (Rd.again [D.i 1, D.i (a.I.toNat : Int), D.i b.I, D.i (IntKind.i64.wrap (c.I + (1 : Int))), D.i d.I, D.i e.I, D.l f.L, D.b g.B, D.i h.I, D.i (↑(i.I.toNat + 2) : Int), D.l j.L, D.l (List.take i.I.toNat k.L ++ List.take (Int.toNat (2 : Int)) (afterL d.I f.L (Int.toNat (D.I (List.getD (List.getD (D.L (List.getD (List.getD j.L c.I.toNat []) 0 default)) 0 []) 1 default) - (1 : Int)))))])))))) (T.need (decide (D.I (List.getD (List.getD (D.L (List.getD (List.getD j.L c.I.toNat []) 0 default)) 0 []) 0 default) = (↑(0 + 1 + 1) : Int))) (T.need (yes (planB d.I e.I f.L = true ∧ (0 : Int) ≤ D.I (List.getD (List.getD (D.L (List.getD (List.getD j.L c.I.toNat []) 0 default)) 0 []) 1 default) ∧ D.I (List.getD (List.getD (D.L (List.getD (List.getD j.L c.I.toNat []) 0 default)) 0 []) 1 default) < (f.L.length : Int) ∧ winOk (D.L (List.getD (List.getD (D.L (List.getD (List.getD j.L c.I.toNat []) 0 default)) 0 []) (1 + 1) default)))) (T.ite (List.isEmpty (D.L (List.getD (List.getD (D.L (List.getD (List.getD j.L c.I.toNat []) 0 default)) 0 []) (1 + 1) default))) (T.need true (T.ite false (T.leaf (Rd.again [D.i 1, D.i (a.I.toNat : Int), D.i b.I, D.i (IntKind.i64.wrap (c.I + (1 : Int))), D.i d.I, D.i e.I, D.l f.L, D.b g.B, D.i h.I, D.i (i.I.toNat : Int), D.l j.L, D.l k.L])) (T.need (decide (i.I.toNat ≤ k.L.length ∧ i.I.toNat + 1 ≤ 2 ^ 62 ∧ (i.I.toNat + 1) * Try.prog.types[139].bytes ≤ 2 ^ 47)) (T.leaf (Rd.again [D.i 1, D.i (a.I.toNat : Int), D.i b.I, D.i (IntKind.i64.wrap (c.I + (1 : Int))), D.i d.I, D.i e.I, D.l f.L, D.b g.B, D.i h.I, D.i (↑(i.I.toNat + 1) : Int), D.l j.L, D.l (List.take i.I.toNat k.L ++ List.take (Int.toNat (1 : Int)) [lk3 (0 : Int) (D.I (List.getD (List.getD (D.L (List.getD (List.getD j.L c.I.toNat []) 0 default)) 0 []) 1 default) + (1 : Int)) (ix (List.getD f.L (Int.toNat (D.I (List.getD (List.getD (D.L (List.getD (List.getD j.L c.I.toNat []) 0 default)) 0 []) 1 default))) []) 1)])]))))) (T.ite (decide (ix (List.getD f.L (Int.toNat (D.I (List.getD (List.getD (D.L (List.getD (List.getD j.L c.I.toNat []) 0 default)) 0 []) 1 default))) []) 1 + busyF d.I (List.getD f.L (Int.toNat (D.I (List.getD (List.getD (D.L (List.getD (List.getD j.L c.I.toNat []) 0 default)) 0 []) 1 default))) []) > ix (List.getD (D.L (List.getD (List.getD (D.L (List.getD (List.getD j.L c.I.toNat []) 0 default)) 0 []) (1 + 1) default)) 0 []) 2)) (T.leaf (Rd.out (Ex.pan 204) [D.i d.I, D.i e.I, D.l f.L, D.b g.B])) (T.need true (T.ite false (T.leaf (Rd.again [D.i 1, D.i (a.I.toNat : Int), D.i b.I, D.i (IntKind.i64.wrap (c.I + (1 : Int))), D.i d.I, D.i e.I, D.l f.L, D.b g.B, D.i h.I, D.i (i.I.toNat : Int), D.l j.L, D.l k.L])) (T.need (decide (i.I.toNat ≤ k.L.length ∧ i.I.toNat + 2 ≤ 2 ^ 62 ∧ (i.I.toNat + 2) * Try.prog.types[139].bytes ≤ 2 ^ 47)) (T.leaf (Rd.again [D.i 1, D.i (a.I.toNat : Int), D.i b.I, D.i (IntKind.i64.wrap (c.I + (1 : Int))), D.i d.I, D.i e.I, D.l f.L, D.b g.B, D.i h.I, D.i (↑(i.I.toNat + 2) : Int), D.l j.L, D.l (List.take i.I.toNat k.L ++ List.take (Int.toNat (2 : Int)) [lk3 (0 : Int) (D.I (List.getD (List.getD (D.L (List.getD (List.getD j.L c.I.toNat []) 0 default)) 0 []) 1 default) + (1 : Int)) (ix (List.getD f.L (Int.toNat (D.I (List.getD (List.getD (D.L (List.getD (List.getD j.L c.I.toNat []) 0 default)) 0 []) 1 default))) []) 1 + ix (List.getD (D.L (List.getD (List.getD (D.L (List.getD (List.getD j.L c.I.toNat []) 0 default)) 0 []) (1 + 1) default)) 0 []) 0), lk3 (D.I (List.getD (List.getD (D.L (List.getD (List.getD j.L c.I.toNat []) 0 default)) 0 []) 1 default) + (1 : Int)) (0 : Int) (busyF d.I (List.getD f.L (Int.toNat (D.I (List.getD (List.getD (D.L (List.getD (List.getD j.L c.I.toNat []) 0 default)) 0 []) 1 default))) []) - ix (List.getD (D.L (List.getD (List.getD (D.L (List.getD (List.getD j.L c.I.toNat []) 0 default)) 0 []) (1 + 1) default)) 0 []) 1)])]))))))))))))) (T.leaf (Rd.out (Ex.exit 0) [D.i 1, D.i d.I, D.i e.I, D.l f.L, D.b g.B, D.i h.I, D.i (i.I.toNat : Int), D.l k.L])) := by kernel_rfl
theorem t71_9_1 (a b c d e f g h i : D) : roundTK C tab71 71 (loopOf C.P 71 9) 3 l71_9 [.i 1, a, b, c, d, e, f, g, h, i] =
 T.ite (decide (b.I < a.I)) (T.need true (T.ite false (T.leaf (Rd.again [D.i 1, D.i a.I, D.i (IntKind.i64.wrap (b.I + (1 : Int))), D.i c.I, D.i d.I, D.l e.L, D.b f.B, D.i g.I, D.i (h.I.toNat : Int), D.l i.L])) (T.need (decide (h.I.toNat ≤ i.L.length ∧ h.I.toNat + 1 ≤ 2 ^ 62 ∧ (h.I.toNat + 1) * Try.prog.types[139].bytes ≤ 2 ^ 47)) (T.leaf (Rd.again [D.i 1, D.i a.I, D.i (IntKind.i64.wrap (b.I + (1 : Int))), D.i c.I, D.i d.I, D.l e.L, D.b f.B, D.i g.I, D.i (↑(h.I.toNat + 1) : Int), D.l (List.take h.I.toNat i.L ++ List.take (List.length [[D.i 0, D.i b.I, D.i 0]]) [[D.i 0, D.i b.I, D.i 0]])]))))) (T.leaf (Rd.out (Ex.exit 2) [D.i 1, D.i c.I, D.i d.I, D.l e.L, D.b f.B, D.i g.I, D.i (h.I.toNat : Int), D.l i.L])) := by kernel_rfl
theorem t72 (a b c d e f g : D) : fnTW C tab72 72 s72 [a, b, c, d, e, f, g] =
 T.need (yes (d.L ≠ [] ∧ d.L.length ≤ 1073741824)) (T.need (yes ((↑0 : Int) = (0 : Int) ∧ planB a.I b.I c.L = true ∧ (e.I.toNat : Int) = (1 : Int) ∧ (f.I.toNat : Int) = (c.L.length : Int) + (1 : Int) ∧ c.L = c.L ∧ (c.L.length : Int) = (c.L.length : Int) ∧ (0 : Int) = (0 : Int) ∧ duOK c.L g.L ∧ (e.I.toNat : Int) = (1 : Int) ∧ (f.I.toNat : Int) = (c.L.length : Int) + (1 : Int) ∧ (↑(Int.toNat (d.L.length : Int)) : Int) = (d.L.length : Int))) (T.leaf [D.i 1, D.i (↑(Int.toNat (↑(c.L.length + 1) : Int)) : Int), D.i (↑(Int.toNat (c.L.length : Int)) : Int), D.i (↑(Int.toNat (c.L.length : Int)) : Int), D.i (↑(Int.toNat (d.L.length : Int)) : Int), D.l g.L, D.l (rowF (clG c.L (duF g.L)) 0 c.L.length), D.l (rowF (opG a.I c.L (duF g.L)) 0 c.L.length), D.l d.L])) := by kernel_rfl
theorem t72_3_0 (a b c d e f g h i j k l m : D) : roundTK C tab72 72 (loopOf C.P 72 3) 1 l72_3 [.i 0, a, b, c, d, e, f, g, h, i, j, k, l, m] =
 T.ite (decide (e.I < d.I)) (T.need (decide ((0 : Int) ≤ e.I ∧ e.I < (c.L.length : Int))) (T.need (decide ((0 : Int) ≤ e.I ∧ e.I < (b.I.toNat : Int))) (T.need (decide (a.I.toNat + e.I.toNat < f.L.length)) (T.need true (T.ite false (T.need (decide ((0 : Int) ≤ e.I ∧ e.I < (b.I.toNat : Int))) (T.need (decide (a.I.toNat + e.I.toNat < f.L.length)) (T.need (yes (planB g.I h.I i.L = true ∧ (0 : Int) ≤ e.I ∧ e.I < (i.L.length : Int))) (T.need true (T.ite false (T.leaf (Rd.again [D.i 0, D.i (a.I.toNat : Int), D.i (b.I.toNat : Int), D.l c.L, D.i d.I, D.i (IntKind.i64.wrap (e.I + (1 : Int))), D.l f.L, D.i g.I, D.i h.I, D.l i.L, D.i (j.I.toNat : Int), D.i (k.I.toNat : Int), D.i (l.I.toNat : Int), D.l m.L])) (T.need true T.fail)))))) (T.need true (T.need (decide ((0 : Int) ≤ e.I ∧ e.I < (b.I.toNat : Int))) (T.need (decide (a.I.toNat + e.I.toNat < f.L.length)) (T.need (yes (planB g.I h.I i.L = true ∧ (0 : Int) ≤ e.I ∧ e.I < (i.L.length : Int))) (T.need true (T.ite false T.fail (T.need true (T.leaf (Rd.again [D.i 1, D.i (a.I.toNat : Int), D.i (b.I.toNat : Int), D.l c.L, D.i d.I, D.i (IntKind.i64.wrap (e.I + (1 : Int))), D.l f.L, D.i g.I, D.i h.I, D.l i.L, D.i (j.I.toNat : Int), D.i (k.I.toNat : Int), D.i 1, D.i 1, D.i (l.I.toNat : Int), D.l [[D.i (IntKind.i64.wrap (D.I (List.getD (List.getD f.L (a.I.toNat + e.I.toNat) []) 0 default) - D.I (List.getD (List.getD c.L e.I.toNat []) (0 + 1) default)))]], D.l [[D.i (IntKind.i64.wrap (D.I (List.getD (List.getD f.L (a.I.toNat + e.I.toNat) []) 0 default) + busyF g.I (List.getD i.L e.I.toNat [])))]], D.l m.L])))))))))))))) T.fail := by kernel_rfl
theorem t72_3_1 (a b c d e f g h i j k l m n o p q : D) : roundTK C tab72 72 (loopOf C.P 72 3) 1 l72_3 [.i 1, a, b, c, d, e, f, g, h, i, j, k, l, m, n, o, p, q] =
 T.ite (decide (e.I < d.I)) (T.need (decide ((0 : Int) ≤ e.I ∧ e.I < (c.L.length : Int))) (T.need (decide ((0 : Int) ≤ e.I ∧ e.I < (b.I.toNat : Int))) (T.need (decide (a.I.toNat + e.I.toNat < f.L.length)) (T.need true (T.ite false (T.need (decide ((0 : Int) ≤ e.I ∧ e.I < (b.I.toNat : Int))) (T.need (decide (a.I.toNat + e.I.toNat < f.L.length)) (T.need (yes (planB g.I h.I i.L = true ∧ (0 : Int) ≤ e.I ∧ e.I < (i.L.length : Int))) (T.need true (T.ite false (T.leaf (Rd.again [D.i 1, D.i (a.I.toNat : Int), D.i (b.I.toNat : Int), D.l c.L, D.i d.I, D.i (IntKind.i64.wrap (e.I + (1 : Int))), D.l f.L, D.i g.I, D.i h.I, D.l i.L, D.i (j.I.toNat : Int), D.i (k.I.toNat : Int), D.i (l.I.toNat : Int), D.i (m.I.toNat : Int), D.i (n.I.toNat : Int), D.l o.L, D.l p.L, D.l q.L])) (T.need (decide (m.I.toNat ≤ p.L.length ∧ m.I.toNat + 1 ≤ 2 ^ 62 ∧ (m.I.toNat + 1) * Try.prog.types[3].bytes ≤ 2 ^ 47)) (T.leaf (Rd.again [D.i 1, D.i (a.I.toNat : Int), D.i (b.I.toNat : Int), D.l c.L, D.i d.I, D.i (IntKind.i64.wrap (e.I + (1 : Int))), D.l f.L, D.i g.I, D.i h.I, D.l i.L, D.i (j.I.toNat : Int), D.i (k.I.toNat : Int), D.i (l.I.toNat : Int), D.i (↑(m.I.toNat + 1) : Int), D.i (n.I.toNat : Int), D.l o.L, D.l (List.take m.I.toNat p.L ++ List.take (List.length [[D.i (IntKind.i64.wrap (D.I (List.getD (List.getD f.L (a.I.toNat + e.I.toNat) []) 0 default) + busyF g.I (List.getD i.L e.I.toNat [])))]]) [[D.i (IntKind.i64.wrap (D.I (List.getD (List.getD f.L (a.I.toNat + e.I.toNat) []) 0 default) + busyF g.I (List.getD i.L e.I.toNat [])))]]), D.l q.L])))))))) (T.need (decide (l.I.toNat ≤ o.L.length ∧ l.I.toNat + 1 ≤ 2 ^ 62 ∧ (l.I.toNat + 1) * Try.prog.types[3].bytes ≤ 2 ^ 47)) (T.need (decide ((0 : Int) ≤ e.I ∧ e.I < (b.I.toNat : Int))) (T.need (decide (a.I.toNat + e.I.toNat < f.L.length)) (T.need (yes (planB g.I h.I i.L = true ∧ (0 : Int) ≤ e.I ∧ e.I < (i.L.length : Int))) (T.need true (T.ite false (T.leaf (Rd.again [D.i 1, D.i (a.I.toNat : Int), D.i (b.I.toNat : Int), D.l c.L, D.i d.I, D.i (IntKind.i64.wrap (e.I + (1 : Int))), D.l f.L, D.i g.I, D.i h.I, D.l i.L, D.i (j.I.toNat : Int), D.i (k.I.toNat : Int), D.i (↑(l.I.toNat + 1) : Int), D.i (m.I.toNat : Int), D.i (n.I.toNat : Int), D.l (List.take l.I.toNat o.L ++ List.take (List.length [[D.i (IntKind.i64.wrap (D.I (List.getD (List.getD f.L (a.I.toNat + e.I.toNat) []) 0 default) - D.I (List.getD (List.getD c.L e.I.toNat []) (0 + 1) default)))]]) [[D.i (IntKind.i64.wrap (D.I (List.getD (List.getD f.L (a.I.toNat + e.I.toNat) []) 0 default) - D.I (List.getD (List.getD c.L e.I.toNat []) (0 + 1) default)))]]), D.l p.L, D.l q.L])) (T.need (decide (m.I.toNat ≤ p.L.length ∧ m.I.toNat + 1 ≤ 2 ^ 62 ∧ (m.I.toNat + 1) * Try.prog.types[3].bytes ≤ 2 ^ 47)) (T.leaf (Rd.again [D.i 1, D.i (a.I.toNat : Int), D.i (b.I.toNat : Int), D.l c.L, D.i d.I, D.i (IntKind.i64.wrap (e.I + (1 : Int))), D.l f.L, D.i g.I, D.i h.I, D.l i.L, D.i (j.I.toNat : Int), D.i (k.I.toNat : Int), D.i (↑(l.I.toNat + 1) : Int), D.i (↑(m.I.toNat + 1) : Int), D.i (n.I.toNat : Int), D.l (List.take l.I.toNat o.L ++ List.take (List.length [[D.i (IntKind.i64.wrap (D.I (List.getD (List.getD f.L (a.I.toNat + e.I.toNat) []) 0 default) - D.I (List.getD (List.getD c.L e.I.toNat []) (0 + 1) default)))]]) [[D.i (IntKind.i64.wrap (D.I (List.getD (List.getD f.L (a.I.toNat + e.I.toNat) []) 0 default) - D.I (List.getD (List.getD c.L e.I.toNat []) (0 + 1) default)))]]), D.l (List.take m.I.toNat p.L ++ List.take (List.length [[D.i (IntKind.i64.wrap (D.I (List.getD (List.getD f.L (a.I.toNat + e.I.toNat) []) 0 default) + busyF g.I (List.getD i.L e.I.toNat [])))]]) [[D.i (IntKind.i64.wrap (D.I (List.getD (List.getD f.L (a.I.toNat + e.I.toNat) []) 0 default) + busyF g.I (List.getD i.L e.I.toNat [])))]]), D.l q.L])))))))))))))) (T.leaf (Rd.out (Ex.exit 0) [D.l f.L, D.i (j.I.toNat : Int), D.i (k.I.toNat : Int), D.i (l.I.toNat : Int), D.i (m.I.toNat : Int), D.i (n.I.toNat : Int), D.l o.L, D.l p.L, D.l q.L])) := by kernel_rfl
theorem t115 (a : D) : fnT C tab115 115 s115 [a] =
 T.need (!List.isEmpty a.L) (T.ite (List.isEmpty a.L) (T.leaf [D.i 1]) (T.need (decide (a.L.length ≤ 2 ^ 62 ∧ a.L.length * Try.prog.types[3].bytes ≤ 2 ^ 47)) (T.leaf [D.i 0, D.i (a.L.length : Int), D.l a.L]))) := by kernel_rfl
set_option maxRecDepth 100000
def solD (c f : Int) (w ch : List (List D)) (d : Nat → Int) : Prop :=
 f ≤ d 0 ∧ (∀ j, 0 ≤ d j) ∧ ∀ j, j < w.length → d j + leW c w j ≤ d (j + 1) ∧ d (j + 1) - moW c w j ≤ d j ∧ ix (w.getD j []) 1 + fromF w ch j ≤ d j
def shiftD (d : Nat → Int) : Nat → Int
 | 0 => 0
 | j + 1 => d j
def endsD (c : Int) (w ch : List (List D)) (d : Nat → Int) : Prop := ∀ j, j < w.length → 0 ≤ rg ch j → d j + busyF c (w.getD j []) ≤ ix (winF w ch j) 1
theorem kept_sol {u : Bool} {c f : Int} {w ch : List (List D)} {d : Nat → Int} (h0 : ∀ j, 0 ≤ d j) : (netN (nP w) (allL (nP w) (linksP u c f w ch))).kept (shiftD d) ↔ solD c f w ch d ∧ (u = true → endsD c w ch d) := by
 rw [kept_plan]
 unfold keptJ solD endsD
 simp only [shiftD, Int.zero_add]
 constructor
 ·rintro ⟨h1, h2, -⟩
  refine ⟨⟨h1, h0, fun j hj => ?_⟩, fun hu j hj hc => ?_⟩
  ·obtain ⟨a, b, c, -⟩ := h2 j hj
   exact ⟨a, b, c⟩
  ·obtain ⟨-, -, -, e⟩ := h2 j hj
   have := e hu hc
   omega
 ·rintro ⟨⟨h1, -, h2⟩, h3⟩
  refine ⟨h1, fun j hj => ?_, fun j _ => ?_⟩
  ·obtain ⟨a, b, c⟩ := h2 j hj
   exact ⟨a, b, c, fun hu hc => by have := h3 hu j hj hc; omega⟩
  ·cases j with
   | zero => exact Int.le_refl _
   | succ j => exact h0 j
theorem kept_shift {u : Bool} {c f : Int} {w ch : List (List D)} {p : Nat → Int} (h0 : p 0 = 0) (h : (netN (nP w) (allL (nP w) (linksP u c f w ch))).kept p) (hn : ∀ j, 0 ≤ p j) : solD c f w ch (fun j => p (j + 1)) ∧ (u = true → endsD c w ch fun j => p (j + 1)) := by
 rw [← kept_sol (fun j => hn _)]
 rw [kept_plan] at h ⊢
 have e : ∀ j, shiftD (fun j => p (j + 1)) j = p j := fun j => by cases j with
  | zero => exact h0.symm
  | succ j => rfl
 unfold keptJ at h ⊢
 simp only [e]
 exact h
section
variable {c f : Int} {w ch : List (List D)}
theorem hours_of {l : List (List D)} (h : hours l = true) {k : Nat} (hk : k < l.length) : (0 ≤ ix (l.getD k []) 0 ∧ ix (l.getD k []) 0 ≤ ix (l.getD k []) 1) ∧ ix (l.getD k []) 1 ≤ 200000 ∧ 0 ≤ ix (l.getD k []) 2 ∧ ix (l.getD k []) 2 ≤ 200000 := by
 unfold hours at h
 exact of_decide_eq_true (allFrom_iff.1 h k (Nat.zero_le _) (by omega))
theorem win_of (hp : planB c f w = true) (hc : chOK w ch) {j : Nat} (hj : j < w.length) (h0 : 0 ≤ rg ch j) : (0 ≤ ix (winF w ch j) 0 ∧ ix (winF w ch j) 0 ≤ ix (winF w ch j) 1) ∧ ix (winF w ch j) 1 ≤ 200000 ∧ 0 ≤ ix (winF w ch j) 2 ∧ ix (winF w ch j) 2 ≤ 200000 := by
 have h1 := hc.2 j hj
 split at h1
 ·omega
 ·exact hours_of (way_of hp hj).2 (by omega)
theorem from_of (hp : planB c f w = true) (hc : chOK w ch) {j : Nat} (hj : j < w.length) : 0 ≤ fromF w ch j ∧ fromF w ch j ≤ 200000 := by
 unfold fromF
 split
 ·have := win_of hp hc hj (by assumption)
  omega
 ·omega
theorem lemo_of (hp : planB c f w = true) {j : Nat} (hj : j < w.length) : 0 ≤ leW c w j ∧ leW c w j ≤ moW c w j ∧ moW c w j ≤ 14000 := by
 have h1 := wayC_of (way_of hp hj).1
 have h2 := span_of hp hj
 unfold leW moW
 by_cases hg : j + 1 < w.length ∧ bx (w.getD (j + 1) []) 4 = true
 ·have h3 := wayC_of (way_of hp hg.1).1
  rw [if_pos hg, if_pos hg]
  omega
 ·rw [if_neg hg, if_neg hg]
  omega
theorem busy_of (hp : planB c f w = true) {j : Nat} (hj : j < w.length) : 0 ≤ busyF c (w.getD j []) ∧ busyF c (w.getD j []) ≤ 14000 := by
 have h1 := wayC_of (way_of hp hj).1
 have h2 := span_of hp hj
 unfold busyF
 omega
def qD (c : Int) (w : List (List D)) : Nat → Int
 | 0 => 300000
 | j + 1 => if j < w.length then qD c w j + leW c w j else 300000
theorem qD_rng (hp : planB c f w = true) : ∀ j, 300000 ≤ qD c w j ∧ qD c w j ≤ 300000 + 14000 * j
 | 0 => by simp [qD]
 | j + 1 => by
   have := qD_rng hp j
   simp only [qD]
   split
   ·have := lemo_of hp (j := j) (by assumption)
    omega
   ·omega
theorem qD_sol (hp : planB c f w = true) (hc : chOK w ch) : solD c f w ch (qD c w) := by
 obtain ⟨-, -, p1, p2⟩ := plan_of hp
 refine ⟨by simp only [qD]; omega, fun j => by have := qD_rng hp j; omega, fun j hj => ?_⟩
 have h1 := lemo_of hp hj
 have h2 := qD_rng hp j
 have h3 := from_of hp hc hj
 have h4 := wayC_of (way_of hp hj).1
 simp only [qD]
 rw [if_pos hj]
 omega
theorem len_linksF (u : Bool) : ∀ (k i : Nat), (linksF u c w ch i k).length ≤ 4 * k
 | 0, _ => by simp [linksF]
 | k + 1, i => by
   have h1 := len_linksF u k (i + 1)
   have h2 : (linkJ u c w ch i).length ≤ 4 := by
    unfold linkJ afterL closL
    split
    ·cases u <;> simp
    ·simp
   simp only [linksF, List.length_append]
   omega
theorem net_plan (u : Bool) (hp : planB c f w = true) (hc : chOK w ch) : netP (nP w) (linksP u c f w ch) := by
 obtain ⟨p0, p1, p2, p3⟩ := plan_of hp
 have hl := len_linksF (c := c) (w := w) (ch := ch) u w.length 0
 unfold netP netOk
 simp only [Bool.and_eq_true, Lite.within_iff, decide_eq_true_eq, allFrom_iff]
 refine ⟨⟨by unfold nP; omega, by unfold linksP; simp only [List.length_cons]; omega⟩, fun i _ hi => ?_⟩
 have key : ∀ x ∈ linksP u c f w ch, linkP (nP w) (ix x 0) (ix x 1) (ix x 2) = true := by
  have g : ∀ a b y : Int, linkP (nP w) (ix (lk3 a b y) 0) (ix (lk3 a b y) 1) (ix (lk3 a b y) 2) = linkP (nP w) a b y := fun _ _ _ => rfl
  have g2 : ∀ a b y : Int, (0 ≤ a ∧ a ≤ w.length + 1) → (0 ≤ b ∧ b ≤ w.length + 1) → (-1000000 ≤ y ∧ y ≤ 1000000) → linkP (nP w) a b y = true := fun a b y h1 h2 h3 => by
   unfold linkP nP
   simp only [Bool.and_eq_true, Lite.within_iff]
   omega
  intro x hx
  unfold linksP at hx
  rw [List.mem_cons, mem_linksF] at hx
  rcases hx with rfl | ⟨j, -, hj, hx⟩
  ·rw [g]
   exact g2 _ _ _ (by omega) (by omega) (by omega)
  ·have hjl : j < w.length := by omega
   have h1 := lemo_of hp hjl
   have h2 := busy_of hp hjl
   have h3 := wayC_of (way_of hp hjl).1
   unfold linkJ afterL closL at hx
   rw [List.mem_append, List.mem_cons, List.mem_cons] at hx
   rcases hx with (rfl | rfl | hx) | hx
   ·rw [g]; exact g2 _ _ _ (by omega) (by omega) (by omega)
   ·rw [g]; exact g2 _ _ _ (by omega) (by omega) (by omega)
   ·cases hx
   ·by_cases h0 : 0 ≤ rg ch j
    ·have h4 := win_of hp hc hjl h0
     rw [if_pos h0, List.mem_cons] at hx
     rcases hx with rfl | hx
     ·rw [g]; exact g2 _ _ _ (by omega) (by omega) (by omega)
     ·cases u with
      | false => cases hx
      | true =>
        simp only [if_true, List.mem_cons, List.not_mem_nil, or_false] at hx
        subst hx
        rw [g]; exact g2 _ _ _ (by omega) (by omega) (by omega)
    ·rw [if_neg h0, List.mem_cons] at hx
     rcases hx with rfl | hx
     ·rw [g]; exact g2 _ _ _ (by omega) (by omega) (by omega)
     ·cases hx
 have := key ((linksP u c f w ch).getD i []) (by
  have hi' : i < (linksP u c f w ch).length := by omega
  rw [List.getD_eq_getElem?_getD, List.getElem?_eq_getElem hi']
  exact List.getElem_mem hi')
 exact this
theorem shift_nn {d : Nat → Int} (h : ∀ j, 0 ≤ d j) (j : Nat) : 0 ≤ shiftD d j := by
 cases j with
 | zero => exact Int.le_refl _
 | succ j => exact h j
theorem push_plan (u : Bool) (hp : planB c f w = true) (hc : chOK w ch) (hr : (pushP u c f w ch).2.2 < 0) :
    rg (pushP u c f w ch).1 0 = 0 ∧ (∀ j, 0 ≤ rg (pushP u c f w ch).1 j) ∧ (pushP u c f w ch).1.length = w.length + 2 ∧ solD c f w ch (fun j => rg (pushP u c f w ch).1 (j + 1)) ∧ (u = true → endsD c w ch fun j => rg (pushP u c f w ch).1 (j + 1)) := by
 have hn := net_plan u hp hc
 have h0 : rg (pushP u c f w ch).1 0 = 0 := push_zero hn hr
 have h1 : (∀ j, 0 ≤ rg (pushP u c f w ch).1 j) ∧ (pushP u c f w ch).1.length = (nP w).toNat := ⟨fun j => by have := push_le (good_all hn) (len_zeros _) j; rw [rg_zeros] at this; exact this, (sim_push (good_all hn) (len_zeros _)).l1⟩
 have hk := kept_push (good_all hn) (len_zeros _) hr
 have h2 := kept_shift h0 hk h1.1
 have h3 : (pushP u c f w ch).1.length = (nP w).toNat := h1.2
 exact ⟨h0, h1.1, by rw [h3]; unfold nP; omega, h2.1, h2.2⟩
theorem push_le_plan (u : Bool) (hp : planB c f w = true) (hc : chOK w ch) {d : Nat → Int} (hd : solD c f w ch d) (he : u = true → endsD c w ch d) :
    (pushP u c f w ch).2.2 < 0 ∧ ∀ j, rg (pushP u c f w ch).1 (j + 1) ≤ d j := by
 have h := push_least (net_plan u hp hc) ((kept_sol hd.2.1).2 ⟨hd, he⟩) (shift_nn hd.2.1)
 exact ⟨h.1, fun j => h.2 (j + 1)⟩
theorem rg_dueL (c f : Int) (w ch : List (List D)) (j : Nat) : rg (dueL c f w ch) j = rg (pushP false c f w ch).1 (j + 1) := by
 unfold dueL
 rw [rg_drop, Nat.add_comm]
theorem due_least (hp : planB c f w = true) (hc : chOK w ch) : (dueL c f w ch).length = w.length + 1 ∧ canon (dueL c f w ch) ∧ solD c f w ch (rg (dueL c f w ch)) ∧ (∀ j, rg (dueL c f w ch) j ≤ 2000000) ∧ ∀ d, solD c f w ch d → ∀ j, rg (dueL c f w ch) j ≤ d j := by
 have h1 := push_le_plan false hp hc (qD_sol hp hc) (fun h => by cases h)
 have h2 := push_plan false hp hc h1.1
 have hl : (dueL c f w ch).length = w.length + 1 := by unfold dueL; rw [List.length_drop, h2.2.2.1]; rfl
 have hle : ∀ d, solD c f w ch d → ∀ j, rg (dueL c f w ch) j ≤ d j := fun d hd j => by
  rw [rg_dueL]
  exact (push_le_plan false hp hc hd (fun h => by cases h)).2 j
 refine ⟨hl, canon_drop (canon_push _ _) 1, ?_, fun j => ?_, hle⟩
 ·have h3 := h2.2.2.2.1
  have e : rg (dueL c f w ch) = fun j => rg (pushP false c f w ch).1 (j + 1) := funext fun j => rg_dueL c f w ch j
  rw [e]
  exact h3
 ·by_cases hj : j < w.length + 1
  ·have h4 := hle _ (qD_sol hp hc) j
   have h5 := qD_rng hp j
   have h6 := (plan_of hp).2.1
   omega
  ·rw [rg_ge (by omega)]
   omega
theorem push_ends (hp : planB c f w = true) (hc : chOK w ch) : ((pushP true c f w ch).2.2 < 0 ↔ endsD c w ch (rg (dueL c f w ch))) ∧ ((pushP true c f w ch).2.2 < 0 → (pushP true c f w ch).1.drop 1 = dueL c f w ch) := by
 obtain ⟨d1, d2, d3, d4, d5⟩ := due_least (f := f) hp hc
 have key : (pushP true c f w ch).2.2 < 0 → endsD c w ch (rg (dueL c f w ch)) := fun hr => by
  obtain ⟨e1, e2, e3, e4, e5⟩ := push_plan true hp hc hr
  intro j hj h0
  have h1 := e5 rfl j hj h0
  have h2 := d5 _ e4 j
  simp only at h1 h2
  omega
 refine ⟨⟨key, fun he => (push_le_plan true hp hc d3 (fun _ => he)).1⟩, fun hr => ?_⟩
 obtain ⟨e1, e2, e3, e4, e5⟩ := push_plan true hp hc hr
 refine canon_ext (canon_drop (canon_push _ _) 1) d2 (by rw [List.length_drop, e3, d1]; rfl) fun j _ => ?_
 rw [rg_drop, Nat.add_comm]
 have h1 := (push_le_plan true hp hc d3 (fun _ => key hr)).2 j
 have h2 := d5 _ e4 j
 omega
end
set_option maxRecDepth 100000
theorem rD_def (l : List (List D)) (k : Nat) : (lx (l.getD k []) 0).getD 0 [] = rD l k := rfl
theorem all_cons {p : Nat → Bool} {k n : Nat} (h : k < n) : allFrom p k (n - k) = (p k && allFrom p (k + 1) (n - (k + 1))) := by
 rw [show n - k = (n - (k + 1)) + 1 by omega]
 rfl
theorem ok71_4 (n : Nat) : LoopSimK C (n + 2) 3 71 (loopOf C.P 71 4) (mkLK 3 l71_4 G71_4) := by
 refine loop_ofK hC (sp := sp71) (lp := lp71) (sw := sw71) ⟨ok163 n, ok166 n, ok167 n, trivial⟩ ⟨ok113 (n + 1), ok114 (n + 1), trivial⟩ 3 [] (by kernel_rfl) rfl (fun k hk => by cases hk) (by kernel_rfl) (fun ds => ((ds.getD 2 default).I - (ds.getD 3 default).I).toNat) fun ds rr h => ?_
 unfold G71_4 at h
 split at h
 ·rename_i hd nn m i c f w ok z l
  obtain ⟨hp, h⟩ := need_some h
  rw [yes_iff] at hp
  obtain ⟨e0, hp, hv, hn, hm, hi, hl0⟩ := hp
  have hb := big_eq
  have hl := hv.1
  refine ⟨by rw [fuelC]; simp; omega, ?_⟩
  rw [roundTK_head (j := hd) (n := 0) e0 (by decide), show roundTK C (mkTab sp71 lp71 sw71) 71 (loopOf C.P 71 4) 3 l71_4 [.i 0, nn, m, i, c, f, w, ok, z, l] = _ from t71_4_0 nn m i c f w ok z l]
  have hx := hv.2 0 hl0
  have e1 : allFrom (rulesK c.I w.L l.L) 0 l.L.length = (ruleK c.I w.L (rD l.L 0) && allFrom (rulesK c.I w.L l.L) 1 (l.L.length - 1)) := all_cons (p := rulesK c.I w.L l.L) (k := 0) hl0
  have e2 : linksU c.I w.L l.L 0 l.L.length = ruleL c.I w.L (rD l.L 0) ++ linksU c.I w.L l.L 1 (l.L.length - 1) := by
   obtain ⟨q, hq⟩ : ∃ q, l.L.length = q + 1 := ⟨l.L.length - 1, by omega⟩
   rw [hq]
   rfl
  have w1 : IntKind.i64.wrap ((0 : Int) + 1) = 1 := by decide
  simp only [hi, hm, hn, Int.toNat_natCast, Int.toNat_zero, rD_def, ix_def, lx_def, Nat.reduceAdd, w1, e1, e2] at h hx ⊢
  generalize rD l.L 0 = x at h hx ⊢
  have hmu : (((l.L.length : Nat) : Int) - 1).toNat < (m.I - i.I).toNat := by omega
  have go : ruleK c.I w.L x = true → ∀ (y : List (List D)) (q : Int), q = y.length → ruleL c.I w.L x = y → y.length ≤ 2 → (G71_4 [.i 1, .i (l.L.length : Int), .i (l.L.length : Int), .i 1, .i c.I, .i f.I, .l w.L, .b ok.B, .i z.I, .i q, .l l.L, .l y]).run = some rr := fun hk y q hq hy hy2 => by
   subst hq
   rw [hk, Bool.true_and, hy] at h
   refine (need_yes ⟨rfl, hp, hv, rfl, rfl, by simp only [I_i]; omega, by simp only [I_i, L_l]; omega, rfl, by simp only [I_i, L_l]; omega⟩).trans ?_
   exact h
  refine rd_pos (by omega) (rd_dec (by omega) (rd_dec (by omega) ?_))
  rcases hx with hx | ⟨hx, h1, h2⟩ | ⟨hx, h1, h2⟩
  ·refine rd_pos hx (rd_need rfl (rd_false rfl (rd_need rfl (rd_again (go ?_ _ _ ?_ ?_ ?_) hmu))))
   ·unfold ruleK
    exact decide_eq_true (fun hh => by omega)
   ·rfl
   ·unfold ruleL lk3
    rw [if_pos hx]
   ·simp
  ·have hx' : ¬ ix x 0 = ((0 : Nat) : Int) := by omega
   refine rd_neg hx' (rd_pos hx (rd_yes ⟨hp, h1, h2⟩ (rd_need rfl (rd_false rfl (rd_need rfl (rd_again (go ?_ _ _ ?_ ?_ ?_) hmu))))))
   ·unfold ruleK
    exact decide_eq_true (fun hh => by omega)
   ·rfl
   ·unfold ruleL
    rw [if_neg (by omega), if_pos hx]
    rfl
   ·simp
  ·have hx0 : ¬ ix x 0 = ((0 : Nat) : Int) := by omega
   have hx1 : ¬ ix x 0 = ((1 : Nat) : Int) := by omega
   refine rd_neg hx0 (rd_neg hx1 (rd_dec hx (rd_yes ⟨hp, h1.1, h1.2, h2⟩ ?_)))
   have hr : ruleL c.I w.L x = closO c.I w.L (ix x 1).toNat (lx x 2) := by unfold ruleL; rw [if_neg (by omega), if_neg (by omega)]
   have e3 : (((ix x 1).toNat : Nat) : Int) = ix x 1 := by omega
   refine rd_ite (fun hem => ?_) fun hem => ?_
   ·refine rd_need rfl (rd_false rfl (rd_need rfl (rd_again (go ?_ _ _ ?_ ?_ ?_) hmu)))
    ·unfold ruleK
     exact decide_eq_true (fun _ hh => by rw [hem] at hh; cases hh)
    ·rfl
    ·rw [hr]
     unfold closO
     rw [if_pos hem, e3]
     rfl
    ·simp
   ·refine rd_if (fun hgt => rd_out ?_) fun hle => rd_need rfl (rd_false rfl (rd_need rfl (rd_again (go ?_ _ _ ?_ ?_ ?_) hmu)))
    ·have hk : ruleK c.I w.L x = false := by
      unfold ruleK
      exact decide_eq_false (fun hh => by have := hh hx hem; omega)
     rw [hk, Bool.false_and] at h
     exact h
    ·unfold ruleK
     exact decide_eq_true (fun _ _ => by omega)
    ·rfl
    ·rw [hr]
     unfold closO
     rw [if_neg (by rw [hem]; exact Bool.false_ne_true), e3]
     rfl
    ·simp
 ·rename_i hd nn m i c f w ok z ll l k
  obtain ⟨hp, h⟩ := need_some h
  rw [yes_iff] at hp
  obtain ⟨e0, hp, hv, hn, hm, hi0, hi1, hll, hkl⟩ := hp
  have hb := big_eq
  have hl := hv.1
  refine ⟨by rw [fuelC]; simp; omega, ?_⟩
  rw [roundTK_head (j := hd) (n := 1) e0 (by decide), show roundTK C (mkTab sp71 lp71 sw71) 71 (loopOf C.P 71 4) 3 l71_4 [.i 1, nn, m, i, c, f, w, ok, z, ll, l, k] = _ from t71_4_1 nn m i c f w ok z ll l k]
  obtain ⟨j, hj⟩ : ∃ j : Nat, i.I = j := ⟨i.I.toNat, by omega⟩
  have t1 : ∀ y : List D, List.take 1 [y] = [y] := fun _ => rfl
  have t2 : ∀ y z : List D, List.take 2 [y, z] = [y, z] := fun _ _ => rfl
  have t3 : ∀ q : Nat, List.take 2 (afterL c.I w.L q) = afterL c.I w.L q := fun _ => rfl
  have t4 : List.take k.L.length k.L = k.L := List.take_length
  simp only [hj, hm, hn, hll, Int.toNat_natCast, rD_def, ix_def, lx_def, Nat.reduceAdd, t4, bytes139] at h hi0 hi1 hkl ⊢
  refine rd_if (fun hlt => ?_) fun hge => rd_out ?_
  ·have hjl : j < l.L.length := by omega
   have hx := hv.2 j hjl
   rw [wrap_succ (by omega)]
   have e2 : linksU c.I w.L l.L j (l.L.length - j) = ruleL c.I w.L (rD l.L j) ++ linksU c.I w.L l.L (j + 1) (l.L.length - (j + 1)) := by
    rw [show l.L.length - j = (l.L.length - (j + 1)) + 1 by omega]
    rfl
   rw [all_cons hjl, e2, show rulesK c.I w.L l.L j = ruleK c.I w.L (rD l.L j) from rfl] at h
   generalize rD l.L j = x at h hx ⊢
   have hmu : (((l.L.length : Nat) : Int) - ((j + 1 : Nat) : Int)).toNat < (m.I - i.I).toNat := by omega
   have go : ruleK c.I w.L x = true → ∀ (y : List (List D)) (q : Int), q = ((k.L.length + y.length : Nat) : Int) → ruleL c.I w.L x = y → y.length ≤ 2 → (G71_4 [.i 1, .i (l.L.length : Int), .i (l.L.length : Int), .i ((j + 1 : Nat) : Int), .i c.I, .i f.I, .l w.L, .b ok.B, .i z.I, .i q, .l l.L, .l (k.L ++ y)]).run = some rr := fun hk y q hq hy hy2 => by
    subst hq
    rw [hk, Bool.true_and, hy, ← List.append_assoc] at h
    refine (need_yes ⟨rfl, hp, hv, rfl, rfl, by simp only [I_i]; omega, by simp only [I_i, L_l]; omega, by simp only [I_i, L_l, List.length_append], by simp only [I_i, L_l, List.length_append]; omega⟩).trans ?_
    simp only [I_i, L_l, Int.toNat_natCast]
    exact h
   refine rd_dec (by omega) (rd_dec (by omega) ?_)
   rcases hx with hx | ⟨hx, h1, h2⟩ | ⟨hx, h1, h2⟩
   ·refine rd_pos hx (rd_need rfl (rd_false rfl (rd_dec (by omega) (rd_again (go ?_ _ _ ?_ ?_ ?_) hmu))))
    ·unfold ruleK
     exact decide_eq_true (fun hh => by omega)
    ·rfl
    ·unfold ruleL
     rw [if_pos hx]
     rfl
    ·simp
   ·have hx' : ¬ ix x 0 = ((0 : Nat) : Int) := by omega
    refine rd_neg hx' (rd_pos hx (rd_yes ⟨hp, h1, h2⟩ (rd_need rfl (rd_false rfl (rd_dec (by omega) (rd_again (go ?_ _ _ ?_ ?_ ?_) hmu))))))
    ·unfold ruleK
     exact decide_eq_true (fun hh => by omega)
    ·rfl
    ·unfold ruleL
     rw [if_neg (by omega), if_pos hx]
     rfl
    ·simp [afterL]
   ·have hx0 : ¬ ix x 0 = ((0 : Nat) : Int) := by omega
    have hx1 : ¬ ix x 0 = ((1 : Nat) : Int) := by omega
    refine rd_neg hx0 (rd_neg hx1 (rd_dec hx (rd_yes ⟨hp, h1.1, h1.2, h2⟩ ?_)))
    have hr : ruleL c.I w.L x = closO c.I w.L (ix x 1).toNat (lx x 2) := by unfold ruleL; rw [if_neg (by omega), if_neg (by omega)]
    have e3 : (((ix x 1).toNat : Nat) : Int) = ix x 1 := by omega
    refine rd_ite (fun hem => ?_) fun hem => ?_
    ·refine rd_need rfl (rd_false rfl (rd_dec (by omega) (rd_again (go ?_ _ _ ?_ ?_ ?_) hmu)))
     ·unfold ruleK
      exact decide_eq_true (fun _ hh => by rw [hem] at hh; cases hh)
     ·rfl
     ·rw [hr]
      unfold closO
      rw [if_pos hem, e3]
      rfl
     ·simp
    ·refine rd_if (fun hgt => rd_out ?_) fun hle => rd_need rfl (rd_false rfl (rd_dec (by omega) (rd_again (go ?_ _ _ ?_ ?_ ?_) hmu)))
     ·have hk : ruleK c.I w.L x = false := by
       unfold ruleK
       exact decide_eq_false (fun hh => by have := hh hx hem; omega)
      rw [hk, Bool.false_and] at h
      exact h
     ·unfold ruleK
      exact decide_eq_true (fun _ _ => by omega)
     ·rfl
     ·rw [hr]
      unfold closO
      rw [if_neg (by rw [hem]; exact Bool.false_ne_true), e3]
      rfl
     ·simp
  ·rw [show l.L.length - j = 0 by omega] at h
   simp only [allFrom, linksU, List.append_nil] at h
   exact h
 ·cases h
theorem ok71_9 (n : Nat) : LoopSimK C (n + 2) 3 71 (loopOf C.P 71 9) (mkLK 3 l71_9 G71_9) := by
 refine loop_ofK hC (sp := sp71) (lp := lp71) (sw := sw71) ⟨ok163 n, ok166 n, ok167 n, trivial⟩ ⟨ok113 (n + 1), ok114 (n + 1), trivial⟩ 3 [] (by kernel_rfl) rfl (fun k hk => by cases hk) (by kernel_rfl) (fun ds => ((ds.getD 1 default).I - (ds.getD 2 default).I).toNat) fun ds rr h => ?_
 unfold G71_9 at h
 split at h
 ·rename_i hd m i c f w ok z ll r
  obtain ⟨hp, h⟩ := need_some h
  rw [yes_iff] at hp
  obtain ⟨e0, h1, h2, h3, h4, h5⟩ := hp
  have hb := big_eq
  refine ⟨by rw [fuelC]; simp; omega, ?_⟩
  rw [roundTK_head (j := hd) (n := 1) e0 (by decide), show roundTK C (mkTab sp71 lp71 sw71) 71 (loopOf C.P 71 9) 3 l71_9 [.i 1, m, i, c, f, w, ok, z, ll, r] = _ from t71_9_1 m i c f w ok z ll r]
  obtain ⟨q, hq⟩ : ∃ q : Nat, i.I = q := ⟨i.I.toNat, by omega⟩
  have e1 : [[D.i 0, D.i (q : Int), D.i 0]].take 1 = [[D.i 0, D.i (q : Int), D.i 0]] := rfl
  simp only [hq, h4, Int.toNat_natCast, e1, List.length_cons, List.length_nil, Nat.zero_add, List.take_length, bytes139] at h h2 h5 ⊢
  refine rd_if (fun hlt => ?_) fun hge => rd_out ?_
  ·refine rd_need rfl (rd_false rfl (rd_dec (by omega) ?_))
   rw [wrap_succ (by omega)]
   have e2 : (m.I - (q : Int)).toNat = (m.I - ((q + 1 : Nat) : Int)).toNat + 1 := by omega
   refine rd_again ((need_yes ⟨rfl, by simp only [I_i]; omega, by simp only [I_i]; omega, h3, by simp only [I_i, L_l, List.length_append, List.length_cons, List.length_nil], by simp only [I_i, L_l, List.length_append, List.length_cons, List.length_nil]; omega⟩).trans ?_) (show (m.I - ((q + 1 : Nat) : Int)).toNat < (m.I - i.I).toNat by omega)
   rw [← h]
   simp only [L_l, I_i, Int.toNat_natCast, e2, extraF_snoc]
   rfl
  ·rw [← h]
   have e3 : (m.I - (q : Int)).toNat = 0 := by omega
   simp only [e3, extraF, List.append_nil, run_leaf]
 ·cases h
set_option maxRecDepth 100000
theorem cpy_nil {α : Type} (l : List α) (i n : Nat) : cpy l [] i n = l := rfl
theorem rulesF_get {w ch : List (List D)} : ∀ (k i q : Nat), q < k → rD (rulesF w ch i k) (2 * q) = [.i 1, .i (((i + q : Nat) : Int) + 1)] ∧ rD (rulesF w ch i k) (2 * q + 1) = [.i 2, .i ((i + q : Nat) : Int), .l (optF w ch (i + q))]
 | k + 1, i, 0, _ => ⟨rfl, rfl⟩
 | k + 1, i, q + 1, h => by
   have := rulesF_get (w := w) (ch := ch) k (i + 1) q (by omega)
   rw [show i + 1 + q = i + (q + 1) by omega] at this
   exact this
section
variable {c f : Int} {w ch : List (List D)}
theorem rule_0 : rD (rulesP f w ch) 0 = [.i 0, .i f] := rfl
theorem rule_aft {q : Nat} (h : q < w.length) : rD (rulesP f w ch) (2 * q + 1) = [.i 1, .i ((q : Int) + 1)] := by
 have := (rulesF_get (w := w) (ch := ch) w.length 0 q h).1
 rw [Nat.zero_add] at this
 exact this
theorem rule_clo {q : Nat} (h : q < w.length) : rD (rulesP f w ch) (2 * q + 2) = [.i 2, .i (q : Int), .l (optF w ch q)] := by
 have := (rulesF_get (w := w) (ch := ch) w.length 0 q h).2
 rw [Nat.zero_add] at this
 exact this
theorem opt_empty (q : Nat) : (optF w ch q).isEmpty = !decide (0 ≤ rg ch q) := by
 unfold optF
 split
 ·rename_i h; rw [decide_eq_true h]; rfl
 ·rename_i h; rw [decide_eq_false h]; rfl
theorem ruleL_clo (q : Nat) : ruleL c w [.i 2, .i (q : Int), .l (optF w ch q)] = closL true c w ch q := by
 have e : ruleL c w [.i 2, .i (q : Int), .l (optF w ch q)] = closO c w q (optF w ch q) := rfl
 rw [e]
 unfold closO closL
 rw [opt_empty]
 by_cases h : 0 ≤ rg ch q
 ·rw [if_neg (by rw [decide_eq_true h]; exact Bool.false_ne_true), if_pos h, if_pos rfl]
  unfold optF
  rw [if_pos h]
  rfl
 ·rw [if_pos (by rw [decide_eq_false h]; rfl), if_neg h]
theorem ruleK_clo (q : Nat) : ruleK c w [.i 2, .i (q : Int), .l (optF w ch q)] = limJ c w ch q := by
 have e : ruleK c w [.i 2, .i (q : Int), .l (optF w ch q)] = decide ((2 : Int) = 2 → (optF w ch q).isEmpty = false → ix (w.getD q []) 1 + busyF c (w.getD q []) ≤ ix ((optF w ch q).getD 0 []) 2) := rfl
 rw [e, opt_empty]
 unfold limJ
 by_cases h : 0 ≤ rg ch q
 ·have e2 : ix ((optF w ch q).getD 0 []) 2 = ix (winF w ch q) 2 := by unfold optF; rw [if_pos h]; rfl
  rw [e2]
  simp [h]
 ·simp [h]
theorem links_rules : ∀ (k i : Nat), i + k ≤ w.length → linksU c w (rulesP f w ch) (2 * i + 1) (2 * k) = linksF true c w ch i k
 | 0, _, _ => rfl
 | k + 1, i, h => by
   have ih := links_rules (k := k) (i := i + 1) (by omega)
   rw [show 2 * (k + 1) = 2 * k + 1 + 1 by omega]
   simp only [linksU]
   rw [show 2 * i + 1 + 1 = 2 * i + 2 by omega, rule_aft (show i < w.length by omega), rule_clo (show i < w.length by omega), ruleL_clo, show 2 * i + 2 + 1 = 2 * (i + 1) + 1 by omega, ih]
   have e : ruleL c w [.i 1, .i ((i : Int) + 1)] = afterL c w i := by
    have : ruleL c w [.i 1, .i ((i : Int) + 1)] = afterL c w ((i : Int) + 1 - 1).toNat := rfl
    rw [this, show ((i : Int) + 1 - 1).toNat = i by omega]
   rw [e]
   simp only [linksF, linkJ, List.append_assoc]
theorem links_plan : linksU c w (rulesP f w ch) 0 (rulesP f w ch).length = linksP true c f w ch := by
 rw [len_rulesP]
 simp only [linksU]
 rw [show 0 + 1 = 2 * 0 + 1 by rfl, links_rules w.length 0 (by omega)]
 rfl
theorem lim_rules : ∀ (k i : Nat), i + k ≤ w.length → allFrom (rulesK c w (rulesP f w ch)) (2 * i + 1) (2 * k) = allFrom (limJ c w ch) i k
 | 0, _, _ => rfl
 | k + 1, i, h => by
   have ih := lim_rules (k := k) (i := i + 1) (by omega)
   rw [show 2 * (k + 1) = 2 * k + 1 + 1 by omega]
   simp only [allFrom, rulesK]
   rw [show 2 * i + 1 + 1 = 2 * i + 2 by omega, rule_aft (show i < w.length by omega), rule_clo (show i < w.length by omega), ruleK_clo, show 2 * i + 2 + 1 = 2 * (i + 1) + 1 by omega]
   have e : ruleK c w [.i 1, .i ((i : Int) + 1)] = true := by
    have : ruleK c w [.i 1, .i ((i : Int) + 1)] = decide ((1 : Int) = 2 → (D.i 1).L.isEmpty = false → _) := rfl
    rw [this]
    exact decide_eq_true (fun h => by omega)
   rw [e, Bool.true_and]
   rw [← ih]
theorem lim_plan : allFrom (rulesK c w (rulesP f w ch)) 0 (rulesP f w ch).length = limB c w ch := by
 rw [len_rulesP]
 simp only [allFrom]
 rw [show 0 + 1 = 2 * 0 + 1 by rfl, lim_rules w.length 0 (by omega)]
 have e : rulesK c w (rulesP f w ch) 0 = true := by
  unfold rulesK
  rw [rule_0]
  unfold ruleK
  exact decide_eq_true (fun h => by
   have h : (0 : Int) = 2 := h
   omega)
 rw [e, Bool.true_and]
 rfl
theorem rules_valid (hp : planB c f w = true) (hc : chOK w ch) : rulesV w (rulesP f w ch) := by
 have h1 := (plan_of hp).2.1
 refine ⟨by rw [len_rulesP]; omega, fun j hj => ?_⟩
 rw [len_rulesP] at hj
 cases j with
 | zero => exact .inl rfl
 | succ j =>
   obtain ⟨q, hq⟩ : ∃ q, j = 2 * q ∨ j = 2 * q + 1 := ⟨j / 2, by omega⟩
   rcases hq with rfl | rfl
   ·rw [rule_aft (by omega)]
    refine .inr (.inl ⟨rfl, ?_, ?_⟩)
    ·show (1 : Int) ≤ (q : Int) + 1
     omega
    ·show (q : Int) + 1 ≤ w.length
     omega
   ·rw [show 2 * q + 1 + 1 = 2 * q + 2 by rfl, rule_clo (by omega)]
    refine .inr (.inr ⟨rfl, ⟨?_, ?_⟩, fun he => ?_⟩)
    ·show (0 : Int) ≤ (q : Int)
     omega
    ·show (q : Int) < w.length
     omega
    ·have he : (optF w ch q).isEmpty = false := he
     rw [opt_empty] at he
     have h0 : 0 ≤ rg ch q := by
      have : decide (0 ≤ rg ch q) = true := by simpa using he
      exact of_decide_eq_true this
     have hw := win_of hp hc (j := q) (by omega) h0
     show hourB (optF w ch q) 0 = true
     unfold optF
     rw [if_pos h0]
     exact decide_eq_true hw
end
theorem ok71 (n : Nat) : FnOK C (n + 3) 71 (mkF s71 G71) := by
 refine fn_ofD hC (sp := sp71) (lp := lp71) (sw := sw71) ⟨ok163 n, ok166 n, ok167 n, trivial⟩ ⟨ok113 (n + 1), ok114 (n + 1), trivial⟩ (by kernel_rfl) 3 [4, 9] (by kernel_rfl) (by kernel_rfl) (fun k hk L hL => by
     simp at hk
     rcases hk with rfl | rfl <;> cases hL
     ·exact ok71_4 n
     ·exact ok71_9 n) fun ds rr h => ?_
 unfold G71 at h
 split at h
 ·rename_i c f w ch
  obtain ⟨hp, h⟩ := need_some h
  rw [yes_iff] at hp
  obtain ⟨hp, hc⟩ := hp
  refine (congrArg T.run (t71 c f w ch)).trans ?_
  obtain ⟨p0, p1, p2, p3⟩ := plan_of hp
  have hnet := net_plan (f := f.I) true hp hc
  have hgood := good_all hnet
  have w2 : IntKind.i64.wrap ((w.L.length : Int) + 2) = nP w.L := wrap_id (by omega) (by omega)
  have hn : nP w.L = (w.L.length : Int) + 2 := rfl
  have hnn : (nP w.L).toNat = w.L.length + 2 := by omega
  have hll := len_linksF (c := c.I) (w := w.L) (ch := ch.L) true w.L.length 0
  have hpl : (linksP true c.I f.I w.L ch.L).length ≤ 4 * w.L.length + 1 := by unfold linksP; simp only [List.length_cons]; omega
  have e1 : linksP true c.I f.I w.L ch.L ++ extraF 0 (nP w.L).toNat = allL (nP w.L) (linksP true c.I f.I w.L ch.L) := rfl
  have e2 : List.replicate (nP w.L).toNat [D.i 0] = zeros (nP w.L) := rfl
  have e3 : pushR (nP w.L) (allL (nP w.L) (linksP true c.I f.I w.L ch.L)) (zeros (nP w.L)) = pushP true c.I f.I w.L ch.L := rfl
  have lz := len_zeros (nP w.L)
  rw [hnn] at lz
  have t1 : Int.toNat 1 = 1 := rfl
  simp only [lim_plan, links_plan, w2, Int.toNat_natCast, Int.toNat_zero, Int.sub_zero, List.take_length, e1, e2, e3, bytes3, rg_def, t1, lz, cpy_nil]
  refine go_yes ⟨hp, hc⟩ (go_yes ⟨by trivial, hp, rules_valid hp hc, by trivial, by trivial, by trivial, by rw [len_rulesP]; omega⟩ ?_)
  unfold duesOk at h
  refine go_ite (fun hl => ?_) fun hl => ?_
  ·rw [hl, Bool.true_and] at h
   have h1 : (0 : Int) ≤ 1 ∧ (1 : Int) ≤ ((w.L.length + 2 : Nat) : Int) := by omega
   refine go_yes ⟨by trivial, by omega, by omega, by omega, by trivial, by omega⟩ (go_dec ⟨by omega, by trivial, by omega, by omega⟩ (go_dec h1 (go_dec (by omega) (go_dec (by omega) (go_yes ⟨hgood, by trivial, by omega, bnd_zeros _ (by omega)⟩ (go_if (fun hge => ?_) fun hlt => ?_))))))
   ·rw [← h, decide_eq_false (by omega)]
    rfl
   ·have hneg : (pushP true c.I f.I w.L ch.L).2.2 < 0 := by omega
    obtain ⟨q1, q2, q3, -⟩ := push_plan true hp hc hneg
    rw [decide_eq_true hneg] at h
    refine go_dec (by omega) (go_dec (by omega) (go_false ?_ (go_dec h1 ?_)))
    ·rw [q1]
     rfl
    ·rw [← h, run_ite, if_pos rfl, show w.L.length + 2 - 1 = w.L.length + 1 by omega]
  ·rw [hl, Bool.false_and] at h
   rw [← h]
   rfl
 ·cases h
theorem ok115 (n : Nat) : FnOK C (n + 1) 115 (mkF s115 Gcl1) := by
 refine fn_ofS hC (sp := sp115) (lp := lp115) (sw := sw115) trivial trivial (by kernel_rfl) [] (by kernel_rfl) rfl (fun k hk => by cases hk) fun ds rr h => ?_
 unfold Gcl1 at h
 split at h
 ·rename_i l
  obtain ⟨hp, h⟩ := need_some h
  rw [yes_iff] at hp
  obtain ⟨h1, h2⟩ := hp
  refine (congrArg T.run (t115 l)).trans ?_
  have hne : l.L.isEmpty = false := by cases hl : l.L with
   | nil => exact absurd hl h1
   | cons c cs => rfl
  have b3 : Try.prog.types[3].bytes = 8 := by kernel_rfl
  rw [b3]
  refine go_need (by rw [hne]; rfl) (go_false hne (go_dec (by omega) h))
 ·cases h
theorem len_rowF (g : Nat → Int) : ∀ (k i : Nat), (rowF g i k).length = k
 | 0, _ => rfl
 | k + 1, i => by simp only [rowF, List.length_cons, len_rowF g k (i + 1)]
theorem rowF_snoc (g : Nat → Int) : ∀ (k i : Nat), rowF g i k ++ [[.i (g (i + k))]] = rowF g i (k + 1)
 | 0, _ => rfl
 | k + 1, i => by
   have := rowF_snoc g k (i + 1)
   rw [show i + 1 + k = i + (k + 1) by omega] at this
   simp only [rowF, List.cons_append] at this ⊢
   rw [this]
theorem rowF_get (g : Nat → Int) : ∀ (k i j : Nat), j < k → (rowF g i k).getD j [] = [.i (g (i + j))]
 | k + 1, i, 0, _ => rfl
 | k + 1, i, j + 1, h => by
   have := rowF_get g k (i + 1) j (by omega)
   rw [show i + 1 + j = i + (j + 1) by omega] at this
   exact this
theorem rg_rowF {g : Nat → Int} {k i j : Nat} (h : j < k) : rg (rowF g i k) j = g (i + j) := by
 unfold rg
 rw [rowF_get g k i j h]
 rfl
theorem canon_rowF (g : Nat → Int) (k i : Nat) : canon (rowF g i k) := by
 intro j hj
 rw [len_rowF] at hj
 rw [rowF_get g k i j hj, rg_rowF hj]
theorem rowF_ext {g g' : Nat → Int} : ∀ (k i : Nat), (∀ j, i ≤ j → j < i + k → g j = g' j) → rowF g i k = rowF g' i k
 | 0, _, _ => rfl
 | k + 1, i, h => by
   simp only [rowF]
   rw [h i (Nat.le_refl _) (by omega), rowF_ext k (i + 1) (fun j h1 h2 => h j (by omega) (by omega))]
theorem rep_cons (n : Nat) : zerR (n + 1) = [.i 0] :: zerR n := rfl
theorem rowF_rep (g : Nat → Int) (i k : Nat) (v : Int) (hv : v = g i) : rs (rowF g 0 i ++ zerR (k + 1)) i v = rowF g 0 (i + 1) ++ zerR k := by
 unfold rs
 rw [List.set_append_right _ _ (by rw [len_rowF]; exact Nat.le_refl _), len_rowF, Nat.sub_self, rep_cons, List.set_cons_zero, hv]
 have := rowF_snoc g i 0
 rw [Nat.zero_add] at this
 rw [← this, List.append_assoc]
 rfl
set_option maxRecDepth 100000
theorem rs_same {t : List (List D)} (h : canon t) (j : Nat) : rs t j (rg t j) = t := by
 by_cases hj : j < t.length
 ·refine canon_ext (canon_rs h _ _) h (len_rs _ _ _) fun i hi => ?_
  rw [rg_rs hj]
  split
  ·rename_i e; rw [e]
  ·rfl
 ·unfold rs
  exact List.set_eq_of_length_le (by omega)
section
variable {w : List (List D)}
theorem zero_eq (w : List (List D)) (j : Nat) : zeroC w j = min 0 (hoursN w j - 1) := by
 unfold zeroC hoursN
 by_cases h : ((lx (w.getD j []) 7).length : Int) = 0
 ·rw [if_pos h, h]; rfl
 ·rw [if_neg h]
  omega
theorem digit_of {ch : List (List D)} (hc : chOK w ch) {j : Nat} (hj : j < w.length) : (hoursN w j = 0 ∧ rg ch j = -1) ∨ (0 ≤ rg ch j ∧ rg ch j < hoursN w j) := by
 have := hc.2 j hj
 unfold hoursN
 split at this
 ·rename_i h; exact .inl ⟨by omega, this⟩
 ·exact .inr this
theorem digit_ok {ch : List (List D)} (hl : ch.length = w.length) (h : ∀ j, j < w.length → (hoursN w j = 0 ∧ rg ch j = -1) ∨ (0 ≤ rg ch j ∧ rg ch j < hoursN w j)) : chOK w ch := by
 refine ⟨hl, fun j hj => ?_⟩
 have := h j hj
 unfold hoursN at this
 split
 ·rename_i e
  rcases this with h | h
  ·exact h.2
  ·omega
 ·rcases this with h | h
  ·omega
  ·exact h
theorem zero_digit (j : Nat) : (hoursN w j = 0 ∧ zeroC w j = -1) ∨ (0 ≤ zeroC w j ∧ zeroC w j < hoursN w j) := by
 unfold zeroC
 by_cases h : hoursN w j = 0
 ·rw [if_pos h]; exact .inl ⟨h, rfl⟩
 ·rw [if_neg h]
  have : 0 ≤ hoursN w j := by unfold hoursN; omega
  exact .inr ⟨Int.le_refl _, by omega⟩
theorem first_ok : carOK w (firstC w) := by
 refine ⟨digit_ok (len_rowF _ _ _) fun j hj => ?_, canon_rowF _ _ _⟩
 unfold firstC
 rw [rg_rowF hj, Nat.zero_add]
 exact zero_digit j
theorem set_ok {ch : List (List D)} (h : carOK w ch) {k : Nat} (hk : k < w.length) {v : Int} (hv : (hoursN w k = 0 ∧ v = -1) ∨ (0 ≤ v ∧ v < hoursN w k)) : carOK w (rs ch k v) := by
 refine ⟨digit_ok (by rw [len_rs]; exact h.1.1) fun j hj => ?_, canon_rs h.2 _ _⟩
 rw [rg_rs (by rw [h.1.1]; exact hk)]
 split
 ·rename_i e; subst e; exact hv
 ·exact digit_of h.1 hj
theorem carry_ok : ∀ (k : Nat) {ch : List (List D)}, k ≤ w.length → carOK w ch → carOK w (carryF w k ch).1 ∧ -1 ≤ (carryF w k ch).2 ∧ (carryF w k ch).2 < k ∧ (0 ≤ (carryF w k ch).2 → rg (carryF w k ch).1 (carryF w k ch).2.toNat + 1 < hoursN w (carryF w k ch).2.toNat) ∧ ∀ j, k ≤ j → rg (carryF w k ch).1 j = rg ch j
 | 0, ch, _, h => ⟨h, by simp [carryF], by simp [carryF], by simp [carryF], fun _ _ => rfl⟩
 | k + 1, ch, hk, h => by
   simp only [carryF]
   by_cases hc : rg ch k + 1 ≥ hoursN w k
   ·rw [if_pos hc]
    obtain ⟨a, b, c, d, e⟩ := carry_ok k (by omega) (set_ok h (by omega) (zero_digit (w := w) k))
    refine ⟨a, b, by omega, d, fun j hj => ?_⟩
    rw [e j (by omega), rg_rs (by rw [h.1.1]; omega), if_neg (by omega)]
   ·rw [if_neg hc]
    exact ⟨h, by omega, by omega, fun _ => by simp only [Int.toNat_natCast]; omega, fun _ _ => rfl⟩
theorem step_ok {ch : List (List D)} (h : carOK w ch) (h0 : 0 ≤ (carryF w w.length ch).2) : carOK w (stepC (carryF w w.length ch)) := by
 obtain ⟨a, b, c, d, e⟩ := carry_ok w.length (Nat.le_refl _) h
 have hj : (carryF w w.length ch).2.toNat < w.length := by omega
 refine set_ok a hj ?_
 have h1 := digit_of a.1 hj
 have h2 := d h0
 rcases h1 with h1 | h1
 ·omega
 ·exact .inr ⟨by omega, h2⟩
theorem val_congr {ch ch' : List (List D)} : ∀ (k : Nat), (∀ j, j < k → rg ch j = rg ch' j) → valC w ch k = valC w ch' k
 | 0, _ => rfl
 | k + 1, h => by
   simp only [valC]
   rw [val_congr k (fun j hj => h j (by omega)), h k (by omega)]
theorem val_lt {ch : List (List D)} (hc : chOK w ch) : ∀ (k : Nat), k ≤ w.length → valC w ch k < prodF w k
 | 0, _ => Nat.zero_lt_one
 | k + 1, hk => by
   have ih := val_lt hc k (by omega)
   have hd := digit_of hc (show k < w.length by omega)
   have hL : (max 0 (rg ch k)).toNat < (max 1 (hoursN w k)).toNat := by omega
   simp only [valC, prodF]
   generalize (max 0 (rg ch k)).toNat = d at hL
   generalize (max 1 (hoursN w k)).toNat = L at hL ⊢
   calc valC w ch k * L + d < valC w ch k * L + L := by omega
    _ = (valC w ch k + 1) * L := by rw [Nat.add_mul, Nat.one_mul]
    _ ≤ prodF w k * L := Nat.mul_le_mul_right _ ih
theorem val_carry : ∀ (k : Nat) {ch : List (List D)}, k ≤ w.length → carOK w ch → ((carryF w k ch).2 < 0 → valC w ch k + 1 = prodF w k) ∧ (0 ≤ (carryF w k ch).2 → valC w (stepC (carryF w k ch)) k = valC w ch k + 1)
 | 0, ch, _, h => ⟨fun _ => rfl, fun h => by simp [carryF] at h⟩
 | k + 1, ch, hk, h => by
   have hkl : k < w.length := by omega
   have hd := digit_of h.1 hkl
   by_cases hc : rg ch k + 1 ≥ hoursN w k
   ·have hset := set_ok h hkl (zero_digit (w := w) k)
    have hL : (max 0 (rg ch k)).toNat + 1 = (max 1 (hoursN w k)).toNat := by omega
    have hv : valC w (rs ch k (zeroC w k)) k = valC w ch k := val_congr k fun j hj => by rw [rg_rs (by rw [h.1.1]; exact hkl), if_neg (by omega)]
    obtain ⟨i1, i2⟩ := val_carry k (by omega) hset
    obtain ⟨a, b, c, d, e⟩ := carry_ok k (by omega) hset
    simp only [carryF]
    rw [if_pos hc]
    simp only [valC, prodF]
    generalize (max 1 (hoursN w k)).toNat = L at hL ⊢
    refine ⟨fun hn => ?_, fun hp => ?_⟩
    ·have := i1 hn
     rw [hv] at this
     rw [← this, Nat.add_mul, Nat.one_mul]
     omega
    ·have := i2 hp
     rw [hv] at this
     have e1 : rg (stepC (carryF w k (rs ch k (zeroC w k)))) k = zeroC w k := by
      unfold stepC
      rw [rg_rs (by rw [a.1.1]; omega), if_neg (by omega), e k (Nat.le_refl _), rg_rs (by rw [h.1.1]; exact hkl), if_pos rfl]
     have hz := zero_digit (w := w) k
     have e2 : (max 0 (zeroC w k)).toNat = 0 := by rw [zero_eq] at hz ⊢; omega
     rw [this, e1, e2, Nat.add_mul, Nat.one_mul]
     omega
   ·simp only [carryF]
    rw [if_neg hc]
    refine ⟨fun hn => by simp only at hn; omega, fun _ => ?_⟩
    simp only [stepC, Int.toNat_natCast, valC]
    have hv : valC w (rs ch k (rg ch k + 1)) k = valC w ch k := val_congr k fun j hj => by rw [rg_rs (by rw [h.1.1]; exact hkl), if_neg (by omega)]
    rw [hv, rg_rs (by rw [h.1.1]; exact hkl), if_pos rfl]
    omega
theorem rest_last {ch : List (List D)} (h : carOK w ch) (hn : (carryF w w.length ch).2 < 0) : restC w ch = 1 := by
 have := (val_carry w.length (Nat.le_refl _) h).1 hn
 unfold restC
 omega
theorem rest_step {ch : List (List D)} (h : carOK w ch) (hn : 0 ≤ (carryF w w.length ch).2) : restC w ch = restC w (stepC (carryF w w.length ch)) + 1 := by
 have h1 := (val_carry w.length (Nat.le_refl _) h).2 hn
 have h2 := val_lt (step_ok h hn).1 w.length (Nat.le_refl _)
 unfold restC
 omega
theorem val_first : ∀ (k : Nat), k ≤ w.length → valC w (firstC w) k = 0
 | 0, _ => rfl
 | k + 1, hk => by
   simp only [valC]
   have hz := zero_digit (w := w) k
   have e2 : (max 0 (zeroC w k)).toNat = 0 := by rw [zero_eq] at hz ⊢; omega
   rw [val_first k (by omega)]
   unfold firstC
   rw [rg_rowF (by omega), Nat.zero_add, e2]
   omega
theorem rest_first : restC w (firstC w) = prodF w w.length := by
 unfold restC
 rw [val_first _ (Nat.le_refl _)]
 rfl
theorem all_rest {ch : List (List D)} (h : carOK w ch) : allC w (restC w ch) ch = [.i ch.length, .l ch] :: (if (carryF w w.length ch).2 < 0 then [] else allC w (restC w (stepC (carryF w w.length ch))) (stepC (carryF w w.length ch))) := by
 by_cases hn : (carryF w w.length ch).2 < 0
 ·rw [rest_last h hn]
  simp only [allC]
  rw [if_pos hn, if_pos hn]
 ·rw [rest_step h (by omega)]
  simp only [allC]
end
set_option maxRecDepth 100000
section
variable {c f : Int} {w ch : List (List D)}
theorem timed_mk {l : List (List D)} {n : Int} (hl : (l.length : Int) = n) (h : ∀ j, j < l.length → 0 ≤ rg l j ∧ rg l j ≤ 1000000000) : timedB l n = true := by
 unfold timedB
 rw [Bool.and_eq_true, decide_eq_true_eq, allFrom_iff]
 exact ⟨hl, fun j _ hj => by unfold timeL; exact decide_eq_true (h j (by omega))⟩
end
noncomputable def sp70 : SpL := []
noncomputable def lp70 : LpL := []
noncomputable def sw70 : SwL := []
noncomputable def tab70 : Tab := mkTab sp70 lp70 sw70
noncomputable def sp111 : SpL := []
noncomputable def lp111 (q : Nat) : LpL := [(2, mkLY 1 l111_2 (G111_2 q)), (7, mkLY 1 l111_7 (G111_7 q)), (9, mkLY 1 l111_9 (G111_9 q))]
noncomputable def sw111 : SwL := []
noncomputable def tab111 (q : Nat) : Tab := mkTabY sp111 (lp111 q) sw111 y111 q
set_option linter.unusedVariables false
set_option maxRecDepth 100000
theorem t70 (a b c : D) : fnTW C tab70 70 s70 [a, b, c] =
 T.leaf [D.i a.I, D.i b.I, D.l c.L] := by kernel_rfl
theorem t111 (q : Nat) (a b c : D) : fnTY C (tab111 q) 111 s111 [a, b, c] =
 T.need (decide ((0 : Int) ≤ (c.L.length : Int) ∧ (c.L.length : Int) = (c.L.length : Int) ∧ (c.L.length : Int) ≤ (2 : Int) ^ 40 ∧ (↑Try.prog.types[3].bytes : Int) * (c.L.length : Int) ≤ (2 : Int) ^ 46)) (T.need (yes (planB a.I b.I c.L = true ∧ c.L = c.L ∧ (c.L.length : Int) = (c.L.length : Int) ∧ (↑(List.length (List.replicate (Int.toNat (c.L.length : Int)) [D.i 0])) : Int) = (c.L.length : Int) ∧ ((0 : Int) ≤ (0 : Int) ∧ (0 : Int) ≤ (c.L.length : Int)) ∧ List.replicate (Int.toNat (c.L.length : Int)) [D.i 0] = rowF (zeroC c.L) 0 (Int.toNat (0 : Int)) ++ zerR (c.L.length - Int.toNat (0 : Int)))) (T.need (yes (planB a.I b.I c.L = true ∧ fewC c.L ∧ (↑(Int.toNat (↑(Int.toNat (↑(List.length (List.replicate (Int.toNat (c.L.length : Int)) [D.i 0])) : Int)) : Int)) : Int) = (c.L.length : Int) ∧ carOK c.L (firstC c.L) ∧ List.length ([] : List (List D)) ≤ q)) (T.leaf ([] ++ List.take (q + 1 - List.length ([] : List (List D))) (allC c.L (restC c.L (firstC c.L)) (firstC c.L)))))) := by kernel_rfl
theorem t111_2 (q : Nat) (a b c d e f g h i : D) : roundTY C (tab111 q) 111 (loopOf C.P 111 2) 1 l111_2 [a, b, c, d, e, f, g, h, i] =
 T.ite (decide (e.I < d.I)) (T.need (decide ((0 : Int) ≤ e.I ∧ e.I < (c.L.length : Int))) (T.ite ((↑(List.length (D.L (List.getD (List.getD c.L e.I.toNat []) (0 + 1 + 1 + 1 + 1 + 1 + 1 + 1) default))) : Int) == (0 : Int)) (T.need (decide ((0 : Int) ≤ e.I ∧ e.I < (b.I.toNat : Int))) (T.need (decide (e.I.toNat < i.L.length)) (T.leaf (Rd.again [D.l a.L, D.i (b.I.toNat : Int), D.l c.L, D.i d.I, D.i (IntKind.i64.wrap (e.I + (1 : Int))), D.i f.I, D.i g.I, D.l h.L, D.l (List.set i.L e.I.toNat (updC (List.getD i.L e.I.toNat []) [D.i (-1 : Int)] 0 0 (List.length [K.int IntKind.i64])))])))) (T.leaf (Rd.again [D.l a.L, D.i (b.I.toNat : Int), D.l c.L, D.i d.I, D.i (IntKind.i64.wrap (e.I + (1 : Int))), D.i f.I, D.i g.I, D.l h.L, D.l i.L])))) (T.leaf (Rd.out (Ex.exit 0) [D.l a.L, D.i (b.I.toNat : Int), D.i f.I, D.i g.I, D.l h.L, D.l i.L])) := by kernel_rfl
theorem t111_7 (q : Nat) (a b c d e f : D) : roundTY C (tab111 q) 111 (loopOf C.P 111 7) 1 l111_7 [a, b, c, d, e, f] =
 T.ite (!!a.L.length == (tab111 q).q) (T.leaf (Rd.out Ex.ret [D.l (a.L ++ [[D.i (b.I.toNat : Int)] ++ [] ++ ([D.l f.L] ++ [])]), D.i c.I, D.i d.I, D.l e.L])) (T.need (yes (planB c.I d.I e.L = true ∧ (b.I.toNat : Int) = (e.L.length : Int) ∧ carOK e.L f.L ∧ (-1 : Int) ≤ IntKind.i64.wrap ((b.I.toNat : Int) - (1 : Int)) ∧ IntKind.i64.wrap ((b.I.toNat : Int) - (1 : Int)) < (e.L.length : Int))) (T.ite (decide ((carryF e.L (Int.toNat (IntKind.i64.wrap ((b.I.toNat : Int) - (1 : Int)) + (1 : Int))) f.L).snd < (0 : Int))) (T.leaf (Rd.out Ex.ret [D.l (a.L ++ [[D.i (b.I.toNat : Int)] ++ [] ++ ([D.l f.L] ++ [])]), D.i c.I, D.i d.I, D.l e.L])) (T.need (decide ((0 : Int) ≤ (carryF e.L (Int.toNat (IntKind.i64.wrap ((b.I.toNat : Int) - (1 : Int)) + (1 : Int))) f.L).snd ∧ (carryF e.L (Int.toNat (IntKind.i64.wrap ((b.I.toNat : Int) - (1 : Int)) + (1 : Int))) f.L).snd < (↑(Int.toNat (↑(Int.toNat (b.I.toNat : Int)) : Int)) : Int))) (T.need (decide (Int.toNat (carryF e.L (Int.toNat (IntKind.i64.wrap ((b.I.toNat : Int) - (1 : Int)) + (1 : Int))) f.L).snd < List.length (carryF e.L (Int.toNat (IntKind.i64.wrap ((b.I.toNat : Int) - (1 : Int)) + (1 : Int))) f.L).fst)) (T.need (decide ((0 : Int) ≤ (carryF e.L (Int.toNat (IntKind.i64.wrap ((b.I.toNat : Int) - (1 : Int)) + (1 : Int))) f.L).snd ∧ (carryF e.L (Int.toNat (IntKind.i64.wrap ((b.I.toNat : Int) - (1 : Int)) + (1 : Int))) f.L).snd < (↑(Int.toNat (↑(Int.toNat (b.I.toNat : Int)) : Int)) : Int))) (T.need (decide (Int.toNat (carryF e.L (Int.toNat (IntKind.i64.wrap ((b.I.toNat : Int) - (1 : Int)) + (1 : Int))) f.L).snd < List.length (carryF e.L (Int.toNat (IntKind.i64.wrap ((b.I.toNat : Int) - (1 : Int)) + (1 : Int))) f.L).fst)) (T.leaf (Rd.again [D.l (a.L ++ [[D.i (b.I.toNat : Int)] ++ [] ++ ([D.l f.L] ++ [])]), D.i (↑(Int.toNat (↑(Int.toNat (b.I.toNat : Int)) : Int)) : Int), D.i c.I, D.i d.I, D.l e.L, D.l (List.set (carryF e.L (Int.toNat (IntKind.i64.wrap ((b.I.toNat : Int) - (1 : Int)) + (1 : Int))) f.L).fst (Int.toNat (carryF e.L (Int.toNat (IntKind.i64.wrap ((b.I.toNat : Int) - (1 : Int)) + (1 : Int))) f.L).snd) (updC (List.getD (carryF e.L (Int.toNat (IntKind.i64.wrap ((b.I.toNat : Int) - (1 : Int)) + (1 : Int))) f.L).fst (Int.toNat (carryF e.L (Int.toNat (IntKind.i64.wrap ((b.I.toNat : Int) - (1 : Int)) + (1 : Int))) f.L).snd) []) [D.i (IntKind.i64.wrap (D.I (List.getD (List.getD (carryF e.L (Int.toNat (IntKind.i64.wrap ((b.I.toNat : Int) - (1 : Int)) + (1 : Int))) f.L).fst (Int.toNat (carryF e.L (Int.toNat (IntKind.i64.wrap ((b.I.toNat : Int) - (1 : Int)) + (1 : Int))) f.L).snd) []) 0 default) + (1 : Int)))] 0 0 (List.length [K.int IntKind.i64])))])))))))) := by kernel_rfl
theorem t111_9 (q : Nat) (a b c d e f g : D) : roundTY C (tab111 q) 111 (loopOf C.P 111 9) 1 l111_9 [a, b, c, d, e, f, g] =
 T.ite (decide (c.I ≥ (0 : Int))) (T.need (decide ((0 : Int) ≤ c.I ∧ c.I < (b.I.toNat : Int))) (T.need (decide (c.I.toNat < g.L.length)) (T.need (decide ((0 : Int) ≤ c.I ∧ c.I < (f.L.length : Int))) (T.ite (decide (D.I (List.getD (List.getD g.L c.I.toNat []) 0 default) ≥ IntKind.i64.wrap ((↑(List.length (D.L (List.getD (List.getD f.L c.I.toNat []) (0 + 1 + 1 + 1 + 1 + 1 + 1 + 1) default))) : Int) - (1 : Int)))) (T.need (decide ((0 : Int) ≤ c.I ∧ c.I < (b.I.toNat : Int))) (T.need (decide (c.I.toNat < g.L.length)) (T.ite (decide (D.I (List.getD (List.getD g.L c.I.toNat []) 0 default) > (0 : Int))) (T.need (decide ((0 : Int) ≤ c.I ∧ c.I < (b.I.toNat : Int))) (T.need (decide (c.I.toNat < g.L.length)) (T.leaf (Rd.again [D.l a.L, D.i (b.I.toNat : Int), D.i (IntKind.i64.wrap (c.I - (1 : Int))), D.i d.I, D.i e.I, D.l f.L, D.l (List.set g.L c.I.toNat (updC (List.getD g.L c.I.toNat []) [D.i 0] 0 0 (List.length [K.int IntKind.i64])))])))) (T.leaf (Rd.again [D.l a.L, D.i (b.I.toNat : Int), D.i (IntKind.i64.wrap (c.I - (1 : Int))), D.i d.I, D.i e.I, D.l f.L, D.l g.L]))))) (T.leaf (Rd.out (Ex.exit 4) [D.l a.L, D.i (b.I.toNat : Int), D.i c.I, D.i d.I, D.i e.I, D.l f.L, D.l g.L])))))) (T.leaf (Rd.out (Ex.exit 4) [D.l a.L, D.i (b.I.toNat : Int), D.i c.I, D.i d.I, D.i e.I, D.l f.L, D.l g.L])) := by kernel_rfl
set_option maxRecDepth 100000
theorem zer_len (n : Nat) : (zerR n).length = n := List.length_replicate ..
theorem fill_step {w : List (List D)} {k : Nat} (hk : k < w.length) (v : Int) (hv : v = zeroC w k) : rs (rowF (zeroC w) 0 k ++ zerR (w.length - k)) k v = rowF (zeroC w) 0 (k + 1) ++ zerR (w.length - (k + 1)) := by
 rw [show w.length - k = (w.length - (k + 1)) + 1 by omega]
 exact rowF_rep _ _ _ _ hv
theorem fill_same {w : List (List D)} {k : Nat} (hk : k < w.length) (hv : zeroC w k = 0) : rowF (zeroC w) 0 k ++ zerR (w.length - k) = rowF (zeroC w) 0 (k + 1) ++ zerR (w.length - (k + 1)) := by
 have h := rowF_snoc (zeroC w) k 0
 rw [Nat.zero_add, hv] at h
 rw [show w.length - k = (w.length - (k + 1)) + 1 by omega, ← h, rep_cons, List.append_assoc]
 rfl
theorem zero_len (w : List (List D)) (k : Nat) : zeroC w k = if (lx (w.getD k []) 7).length = 0 then -1 else 0 := by
 unfold zeroC hoursN
 by_cases h : (lx (w.getD k []) 7).length = 0
 ·rw [if_pos h, if_pos (by omega)]
 ·rw [if_neg h, if_neg (by omega)]
theorem fill_end {w : List (List D)} {k : Nat} (h : w.length ≤ k) (h2 : k ≤ w.length) : rowF (zeroC w) 0 k ++ zerR (w.length - k) = firstC w := by
 have : k = w.length := by omega
 subst this
 rw [Nat.sub_self]
 exact List.append_nil _
theorem ok111_2 (q n : Nat) : LoopSimY C n 1 111 (loopOf C.P 111 2) (some y111) q (mkLY 1 l111_2 (G111_2 q)) := by
 refine loop_ofY hC (sp := sp111) (lp := lp111 q) (sw := sw111) (Y := y111) (yOK_mk _ _ _) trivial trivial 1 [] (by kernel_rfl) rfl (by kernel_rfl) (fun k hk => by cases hk) (by kernel_rfl) (fun ds => ((ds.getD 3 default).I - (ds.getD 4 default).I).toNat) fun ds rr h => ?_
 unfold G111_2 at h
 split at h
 ·rename_i g m w' r i c f w ch
  obtain ⟨hp, h⟩ := need_some h
  rw [yes_iff] at hp
  obtain ⟨hp, h0, h1, h4, ⟨h2, h3⟩, h5⟩ := hp
  have hb := big_eq
  obtain ⟨p0, p1, -⟩ := plan_of hp
  refine ⟨by rw [fuelC]; simp; omega, ?_⟩
  rw [show roundTY C (mkTabY sp111 (lp111 q) sw111 y111 q) 111 (loopOf C.P 111 2) 1 l111_2 [g, m, w', r, i, c, f, w, ch] = _ from t111_2 q g m w' r i c f w ch]
  obtain ⟨k, hk⟩ : ∃ k : Nat, i.I = k := ⟨i.I.toNat, by omega⟩
  simp only [hk, h0, h1, h4, h5, Int.toNat_natCast, Nat.reduceAdd, lx_def, upd1, rs_def, lenN] at h h2 h3 ⊢
  refine rd_if (fun hlt => ?_) fun hge => rd_out ?_
  ·have hkl : k < w.L.length := by omega
   have hcl : (rowF (zeroC w.L) 0 k ++ zerR (w.L.length - k)).length = w.L.length := by rw [List.length_append, len_rowF, zer_len]; omega
   rw [wrap_succ (by omega)]
   have hmu : ((w.L.length : Int) - ((k + 1 : Nat) : Int)).toNat < (r.I - i.I).toNat := by omega
   have hz := zero_len w.L k
   have go : ∀ cc, cc = rowF (zeroC w.L) 0 (k + 1) ++ zerR (w.L.length - (k + 1)) → (G111_2 q [.l g.L, .i (w.L.length : Int), .l w.L, .i (w.L.length : Int), .i ((k + 1 : Nat) : Int), .i c.I, .i f.I, .l w.L, .l cc]).run = some rr := fun cc hcc => by
    refine (need_yes ⟨hp, rfl, rfl, rfl, ⟨by simp only [I_i]; omega, by simp only [I_i]; omega⟩, by simp only [I_i, L_l, Int.toNat_natCast]; exact hcc⟩).trans ?_
    exact h
   refine rd_dec (by omega) (rd_ite (fun hc => rd_dec (by omega) (rd_dec (by omega) (rd_again (go _ ?_) hmu))) fun hc => rd_again (go _ ?_) hmu)
   ·have hc0 : (lx (w.L.getD k []) 7).length = 0 := by have := eq_of_beq hc; omega
    rw [if_pos hc0] at hz
    exact fill_step hkl _ hz.symm
   ·have hc0 : ¬ (lx (w.L.getD k []) 7).length = 0 := fun e => by rw [e] at hc; cases hc
    rw [if_neg hc0] at hz
    exact fill_same hkl hz
  ·rw [← h, fill_end (by omega) (by omega)]
   rfl
 ·cases h
theorem ok111_9 (q n : Nat) : LoopSimY C n 1 111 (loopOf C.P 111 9) (some y111) q (mkLY 1 l111_9 (G111_9 q)) := by
 refine loop_ofY hC (sp := sp111) (lp := lp111 q) (sw := sw111) (Y := y111) (yOK_mk _ _ _) trivial trivial 1 [] (by kernel_rfl) rfl (by kernel_rfl) (fun k hk => by cases hk) (by kernel_rfl) (fun ds => ((ds.getD 2 default).I + 1).toNat) fun ds rr h => ?_
 unfold G111_9 at h
 split at h
 ·rename_i g m j c f w ch
  obtain ⟨hp, h⟩ := need_some h
  rw [yes_iff] at hp
  obtain ⟨hp, h1, hc, h2, h3⟩ := hp
  have hb := big_eq
  obtain ⟨p0, p1, -⟩ := plan_of hp
  refine ⟨by rw [fuelC]; simp; omega, ?_⟩
  rw [show roundTY C (mkTabY sp111 (lp111 q) sw111 y111 q) 111 (loopOf C.P 111 9) 1 l111_9 [g, m, j, c, f, w, ch] = _ from t111_9 q g m j c f w ch]
  refine rd_if (fun hge => ?_) fun hlt => rd_out ?_
  ·obtain ⟨k, hk⟩ : ∃ k : Nat, j.I = k := ⟨j.I.toNat, by omega⟩
   have hkl : k < w.L.length := by omega
   have hcl := hc.1.1
   have hd := digit_of hc.1 hkl
   have hh := (wayC_of (way_of hp hkl).1).2.2.2.2.2.2
   have e1 : ((k : Int) + 1).toNat = k + 1 := by omega
   have e2 : IntKind.i64.wrap (((lx (w.L.getD k []) 7).length : Int) - 1) = hoursN w.L k - 1 := wrap_id (by omega) (by omega)
   have e3 : ix (ch.L.getD k []) 0 = rg ch.L k := rfl
   simp only [hk, h1, Int.toNat_natCast, Nat.reduceAdd, lx_def, ix_def, upd1, rs_def, e1, e2, e3, carryF, lenN] at h h2 h3 ⊢
   rw [wrap_pred (by omega)]
   have hmu : ((k : Int) - 1 + 1).toNat < (j.I + 1).toNat := by omega
   have go : ∀ cc, cc = rs ch.L k (zeroC w.L k) → rg ch.L k + 1 ≥ hoursN w.L k → (G111_9 q [.l g.L, .i (w.L.length : Int), .i ((k : Int) - 1), .i c.I, .i f.I, .l w.L, .l cc]).run = some rr := fun cc hcc hge => by
    subst hcc
    refine (need_yes ⟨hp, rfl, set_ok hc hkl (zero_digit k), by simp only [I_i]; omega, by simp only [I_i, L_l]; omega⟩).trans ?_
    rw [if_pos hge] at h
    simp only [I_i, L_l, show ((k : Int) - 1 + 1).toNat = k by omega]
    exact h
   refine rd_dec (by omega) (rd_dec (by omega) (rd_dec (by omega) (rd_if (fun hc2 => ?_) fun hc2 => rd_out ?_)))
   ·refine rd_dec (by omega) (rd_dec (by omega) (rd_if (fun hpos => rd_dec (by omega) (rd_dec (by omega) (rd_again (go _ ?_ (by omega)) hmu))) fun hneg => rd_again (go _ ?_ (by omega)) hmu))
    ·have : zeroC w.L k = 0 := by unfold zeroC; rw [if_neg (by omega)]
     rw [this]
    ·have : zeroC w.L k = rg ch.L k := by
      unfold zeroC
      by_cases hz : hoursN w.L k = 0
      ·rw [if_pos hz]; omega
      ·rw [if_neg hz]; omega
     rw [this, rs_same hc.2]
   ·rw [if_neg (by omega)] at h
    exact h
  ·simp only [lenN, h1, Int.toNat_natCast] at h ⊢
   have e : j.I = -1 := by omega
   rw [e] at h ⊢
   exact h
 ·cases h
theorem ok111_7 (q n : Nat) : LoopSimY C n 1 111 (loopOf C.P 111 7) (some y111) q (mkLY 1 l111_7 (G111_7 q)) := by
 refine loop_ofY hC (sp := sp111) (lp := lp111 q) (sw := sw111) (Y := y111) (yOK_mk _ _ _) trivial trivial 1 [9] (by kernel_rfl) (by kernel_rfl) (by kernel_rfl) (fun k hk L hL => by simp at hk; subst hk; cases hL; exact ok111_9 q n) (by kernel_rfl) (fun ds => restC (ds.getD 4 default).L (ds.getD 5 default).L) fun ds rr h => ?_
 unfold G111_7 at h
 split at h
 ·rename_i g m c f w ch
  obtain ⟨hp, h⟩ := need_some h
  rw [yes_iff] at hp
  obtain ⟨hp, hf, h1, hc, hg⟩ := hp
  have hb := big_eq
  obtain ⟨p0, p1, -⟩ := plan_of hp
  have hrl : restC w.L ch.L ≤ 1000000000000 := by unfold restC; unfold fewC at hf; omega
  refine ⟨by rw [fuelC]; show restC w.L ch.L < _; omega, ?_⟩
  rw [show roundTY C (mkTabY sp111 (lp111 q) sw111 y111 q) 111 (loopOf C.P 111 7) 1 l111_7 [g, m, c, f, w, ch] = _ from t111_7 q g m c f w ch]
  have hq : (tab111 q).q = q := rfl
  have hcl := hc.1.1
  have e1 : IntKind.i64.wrap ((w.L.length : Int) - 1) = (w.L.length : Int) - 1 := wrap_pred (by omega)
  have e2 : ((w.L.length : Int) - 1 + 1).toNat = w.L.length := by omega
  rw [all_rest hc, hcl, show q + 1 - g.L.length = (q - g.L.length) + 1 by omega, List.take_succ_cons] at h
  simp only [h1, hq, Int.toNat_natCast, e1, e2, upd1, rs_def, Bool.not_not] at h ⊢
  have hy : [D.i (w.L.length : Int)] ++ [] ++ ([D.l ch.L] ++ []) = [D.i (w.L.length : Int), D.l ch.L] := rfl
  simp only [hy]
  refine rd_ite (fun c2 => rd_out ?_) fun c2 => rd_yes ⟨hp, by trivial, hc, by omega, by omega⟩ (rd_if (fun hn => rd_out ?_) fun hn => ?_)
  ·have c2 : g.L.length = q := by simpa using c2
   rw [show q - g.L.length = 0 by omega, List.take_zero] at h
   exact h
  ·rw [if_pos hn, List.take_nil] at h
   exact h
  ·have c2 : g.L.length ≠ q := by
    have : ¬ (g.L.length == q) = true := by rw [c2]; simp
    simpa using this
   obtain ⟨a, b, d, e, e'⟩ := carry_ok w.L.length (Nat.le_refl _) hc
   have al := a.1.1
   have hnn : 0 ≤ (carryF w.L w.L.length ch.L).2 := by omega
   rw [if_neg hn] at h
   refine rd_dec (by omega) (rd_dec (by omega) (rd_dec (by omega) (rd_dec (by omega) (rd_again ?_ ?_))))
   ·have hdg := digit_of a.1 (j := (carryF w.L w.L.length ch.L).2.toNat) (by omega)
    have hh := (wayC_of (way_of hp (k := (carryF w.L w.L.length ch.L).2.toNat) (by omega)).1).2.2.2.2.2.2
    have e3 : IntKind.i64.wrap (ix ((carryF w.L w.L.length ch.L).1.getD (carryF w.L w.L.length ch.L).2.toNat []) 0 + 1) = rg (carryF w.L w.L.length ch.L).1 (carryF w.L w.L.length ch.L).2.toNat + 1 := by
     have : hoursN w.L (carryF w.L w.L.length ch.L).2.toNat ≤ 10 := by unfold hoursN; omega
     exact wrap_id (x := rg (carryF w.L w.L.length ch.L).1 (carryF w.L w.L.length ch.L).2.toNat + 1) (by omega) (by omega)
    simp only [ix_def, e3]
    refine (need_yes ⟨hp, hf, rfl, step_ok hc hnn, by simp only [L_l, List.length_append, List.length_cons, List.length_nil]; omega⟩).trans ?_
    simp only [L_l, I_i, List.length_append, List.length_cons, List.length_nil, List.append_assoc, List.cons_append, List.nil_append]
    rw [show q + 1 - (g.L.length + (0 + 1)) = q - g.L.length by omega]
    exact h
   ·have hdg := digit_of a.1 (j := (carryF w.L w.L.length ch.L).2.toNat) (by omega)
    have hh := (wayC_of (way_of hp (k := (carryF w.L w.L.length ch.L).2.toNat) (by omega)).1).2.2.2.2.2.2
    have e3 : IntKind.i64.wrap (ix ((carryF w.L w.L.length ch.L).1.getD (carryF w.L w.L.length ch.L).2.toNat []) 0 + 1) = rg (carryF w.L w.L.length ch.L).1 (carryF w.L w.L.length ch.L).2.toNat + 1 := by
     have : hoursN w.L (carryF w.L w.L.length ch.L).2.toNat ≤ 10 := by unfold hoursN; omega
     exact wrap_id (x := rg (carryF w.L w.L.length ch.L).1 (carryF w.L w.L.length ch.L).2.toNat + 1) (by omega) (by omega)
    simp only [ix_def, e3]
    show restC w.L (stepC (carryF w.L w.L.length ch.L)) < restC w.L ch.L
    rw [rest_step hc (by omega)]
    omega
 ·cases h
theorem ok111 (n : Nat) : IterOK C (n + 1) 111 y111 (mkFY s111 G111) := by
 refine iter_of hC (sp := sp111) (lp := lp111) (sw := sw111) (Y := y111) (yOK_mk _ _ _) trivial trivial (by kernel_rfl) [2, 7] (by kernel_rfl) (by kernel_rfl) (by kernel_rfl) (fun q k hk L hL => by
  simp at hk
  rcases hk with rfl | rfl <;> cases hL
  ·exact ok111_2 q n
  ·exact ok111_7 q n) fun ds L h q => ?_
 unfold G111 at h
 split at h
 ·rename_i c f w
  obtain ⟨hp, h⟩ := need_some h
  rw [yes_iff] at hp
  cases h
  obtain ⟨hp, hf⟩ := hp
  obtain ⟨p0, p1, -⟩ := plan_of hp
  have hb := big_eq
  refine (congrArg T.run (t111 q c f w)).trans ?_
  simp only [Int.toNat_natCast, Int.toNat_zero, Nat.sub_zero, List.length_replicate, bytes3, rest_first, List.length_nil, List.nil_append]
  exact go_dec ⟨by omega, by trivial, by omega, by omega⟩ (go_yes ⟨hp, by trivial, by trivial, by trivial, by omega, rfl⟩ (go_yes ⟨hp, hf, by trivial, first_ok, by omega⟩ rfl))
 ·cases h
theorem ok70 (n : Nat) : FnOKW C (n + 1) 70 (mkFW s70 G70) := by
 refine fn_ofW hC (sp := sp70) (lp := lp70) (sw := sw70) trivial trivial (by kernel_rfl) [] (by kernel_rfl) rfl (fun k hk => by cases hk) fun ds rr h => ?_
 unfold G70 at h
 split at h
 ·rename_i c f w
  refine (congrArg T.run (t70 c f w)).trans ?_
  exact h
 ·cases h
set_option maxRecDepth 100000
theorem ok72_3 (n : Nat) : LoopSimK C (n + 1) 1 72 (loopOf C.P 72 3) (mkLK 1 l72_3 G72_3) := by
 refine loop_ofK hC (sp := sp72) (lp := lp72) (sw := sw72) ⟨ok115 n, ok85 n, trivial⟩ trivial 1 [] (by kernel_rfl) rfl (fun k hk => by cases hk) (by kernel_rfl) (fun ds => ((ds.getD 4 default).I - (ds.getD 5 default).I).toNat) fun ds rr h => ?_
 unfold G72_3 at h
 split at h
 ·rename_i hd lo m w' q i du c f w lo2 n2 n3 ch
  obtain ⟨hp, h⟩ := need_some h
  rw [yes_iff] at hp
  obtain ⟨e0, hp, h1, h2, h3, h4, h5, hdu, h6, h7, h8⟩ := hp
  have hb := big_eq
  obtain ⟨p0, p1, -⟩ := plan_of hp
  refine ⟨by rw [fuelC]; simp; omega, ?_⟩
  rw [roundTK_head (j := hd) (n := 0) e0 (by decide), show roundTK C (mkTab sp72 lp72 sw72) 72 (loopOf C.P 72 3) 1 l72_3 [.i 0, lo, m, w', q, i, du, c, f, w, lo2, n2, n3, ch] = _ from t72_3_0 lo m w' q i du c f w lo2 n2 n3 ch]
  have h0 : 0 < w.L.length := by omega
  have c1 := wayC_of (way_of hp h0).1
  have b1 := busy_of hp h0
  have d1 := hdu.2 1
  have dl := hdu.1
  have z1 : IntKind.i64.wrap ((0 : Int) + 1) = 1 := by decide
  have z2 : Int.toNat 1 = 1 := rfl
  have z3 : ((w.L.length : Int) + 1).toNat = w.L.length + 1 := by omega
  have z4 : IntKind.i64.wrap (ix (du.L.getD 1 []) 0 - ix (w.L.getD 0 []) 1) = clG w.L (duF du.L) 0 := wrap_id (x := rg du.L 1 - ix (w.L.getD 0 []) 1) (by omega) (by omega)
  have z5 : IntKind.i64.wrap (ix (du.L.getD 1 []) 0 + busyF c.I (w.L.getD 0 [])) = opG c.I w.L (duF du.L) 0 := wrap_id (x := rg du.L 1 + busyF c.I (w.L.getD 0 [])) (by omega) (by omega)
  simp only [h1, h2, h3, h4, h5, h6, h7, h8, Int.toNat_natCast, Int.toNat_zero, Nat.add_zero, ix_def, Nat.reduceAdd, z1, z2, z3, z4, z5] at h ⊢
  refine rd_pos (by omega) (rd_dec (by omega) (rd_dec (by omega) (rd_dec (by omega) (rd_need rfl (rd_false rfl (rd_need rfl (rd_dec (by omega) (rd_dec (by omega) (rd_yes ⟨hp, by omega, by omega⟩ (rd_need rfl (rd_false rfl (rd_need rfl (rd_again ?_ ?_)))))))))))))
  ·refine (need_yes ⟨rfl, hp, rfl, by simp only [I_i, L_l]; omega, rfl, rfl, ⟨by simp only [I_i]; omega, by simp only [I_i, L_l]; omega⟩, hdu, rfl, by simp only [I_i, L_l]; omega, rfl, rfl, rfl, rfl, rfl⟩).trans ?_
   rw [← h]
   rfl
  ·show ((w.L.length : Int) - 1).toNat < (q.I - i.I).toNat
   omega
 ·rename_i hd lo m w' q i du c f w lo2 n2 n4 n5 n3 cl op ch
  obtain ⟨hp, h⟩ := need_some h
  rw [yes_iff] at hp
  obtain ⟨e0, hp, h1, h2, h3, h4, h5, hdu, h6, h7, h8, h9, h10, h11, h12⟩ := hp
  have hb := big_eq
  obtain ⟨p0, p1, -⟩ := plan_of hp
  refine ⟨by rw [fuelC]; simp; omega, ?_⟩
  rw [roundTK_head (j := hd) (n := 1) e0 (by decide), show roundTK C (mkTab sp72 lp72 sw72) 72 (loopOf C.P 72 3) 1 l72_3 [.i 1, lo, m, w', q, i, du, c, f, w, lo2, n2, n4, n5, n3, cl, op, ch] = _ from t72_3_1 lo m w' q i du c f w lo2 n2 n4 n5 n3 cl op ch]
  obtain ⟨k, hk⟩ : ∃ k : Nat, i.I = k := ⟨i.I.toNat, by omega⟩
  have dl := hdu.1
  have z2 : Int.toNat 1 = 1 := rfl
  have z3 : ((w.L.length : Int) + 1).toNat = w.L.length + 1 := by omega
  have lc := len_rowF (clG w.L (duF du.L)) k 0
  have lo' := len_rowF (opG c.I w.L (duF du.L)) k 0
  have y1 : (rowF (clG w.L (duF du.L)) 0 k).take k = rowF (clG w.L (duF du.L)) 0 k := List.take_of_length_le (by omega)
  have y2 : (rowF (opG c.I w.L (duF du.L)) 0 k).take k = rowF (opG c.I w.L (duF du.L)) 0 k := List.take_of_length_le (by omega)
  have t1 : ∀ y : List D, List.take 1 [y] = [y] := fun _ => rfl
  have b3 : Try.prog.types[3].bytes = 8 := by kernel_rfl
  simp only [hk, h1, h2, h3, h4, h6, h7, h8, h9, h10, h11, h12, Int.toNat_natCast, ix_def, z2, z3, lc, lo', y1, y2, List.length_cons, List.length_nil, Nat.zero_add, t1, b3] at h h5 ⊢
  refine rd_if (fun hlt => ?_) fun hge => rd_out ?_
  ·have hkl : k < w.L.length := by omega
   have c1 := wayC_of (way_of hp hkl).1
   have b1 := busy_of hp hkl
   have d1 := hdu.2 (1 + k)
   have z4 : IntKind.i64.wrap (ix (du.L.getD (1 + k) []) 0 - ix (w.L.getD k []) 1) = clG w.L (duF du.L) (0 + k) := (wrap_id (x := rg du.L (1 + k) - ix (w.L.getD k []) 1) (by omega) (by omega)).trans (by unfold clG duF; rw [Nat.zero_add, Nat.add_comm 1 k])
   have z5 : IntKind.i64.wrap (ix (du.L.getD (1 + k) []) 0 + busyF c.I (w.L.getD k [])) = opG c.I w.L (duF du.L) (0 + k) := (wrap_id (x := rg du.L (1 + k) + busyF c.I (w.L.getD k [])) (by omega) (by omega)).trans (by unfold opG duF; rw [Nat.zero_add, Nat.add_comm 1 k])
   rw [wrap_succ (by omega)]
   simp only [z4, z5, rowF_snoc]
   refine rd_dec (by omega) (rd_dec (by omega) (rd_dec (by omega) (rd_need rfl (rd_false rfl (rd_dec (by omega) (rd_dec (by omega) (rd_dec (by omega) (rd_yes ⟨hp, by omega, by omega⟩ (rd_need rfl (rd_false rfl (rd_dec (by omega) (rd_again ?_ ?_))))))))))))
   ·refine (need_yes ⟨rfl, hp, rfl, by simp only [I_i, L_l]; omega, rfl, rfl, ⟨by simp only [I_i]; omega, by simp only [I_i, L_l]; omega⟩, hdu, rfl, by simp only [I_i, L_l]; omega, rfl, rfl, rfl, by simp only [I_i, L_l, Int.toNat_natCast], by simp only [I_i, L_l, Int.toNat_natCast]⟩).trans ?_
    rw [← h]
    rfl
   ·show ((w.L.length : Int) - ((k + 1 : Nat) : Int)).toNat < (q.I - i.I).toNat
    omega
  ·rw [← h]
   have e : k = w.L.length := by omega
   subst e
   rfl
 ·cases h
theorem ok72 (n : Nat) : FnOKW C (n + 2) 72 (mkFW s72 G72) := by
 refine fn_ofW hC (sp := sp72) (lp := lp72) (sw := sw72) ⟨ok115 n, ok85 n, trivial⟩ trivial (by kernel_rfl) [3] (by kernel_rfl) (by kernel_rfl) (fun k hk L hL => by simp at hk; subst hk; cases hL; exact ok72_3 n) fun ds rr h => ?_
 unfold G72 at h
 split at h
 ·rename_i c f w ch lo m du
  obtain ⟨hp, h⟩ := need_some h
  rw [yes_iff] at hp
  obtain ⟨hp, hc, h1, h2, hdu⟩ := hp
  refine (congrArg T.run (t72 c f w ch lo m du)).trans ?_
  obtain ⟨p0, p1, -⟩ := plan_of hp
  rw [← h]
  simp only [Int.toNat_natCast]
  refine go_yes ⟨fun e => by rw [e] at hc; simp at hc; omega, by omega⟩ (go_yes ⟨by trivial, hp, by omega, by omega, by trivial, by trivial, by trivial, hdu, by omega, by omega, by trivial⟩ rfl)
 ·cases h
noncomputable def it26_7 : ItL := [(111, mkFY s111 G111)]
noncomputable def sp26 : SpL := [(69, mkF s69 G69), (71, mkF s71 G71)]
noncomputable def lp26 : LpL := []
noncomputable def sw26 : SwL := [(70, mkFW s70 G70), (72, mkFW s72 G72)]
noncomputable def rg26 : LpL := [(7, rangeS 0 [1, 2, 3, 5, 16] (rangeOf C.P 26 7).1 it26_7 h26_7 G26_7)]
noncomputable def tab26 : Tab := mkTabR sp26 lp26 sw26 rg26
set_option linter.unusedVariables false
set_option maxRecDepth 100000
theorem t26 (a b c : D) : fnT C tab26 26 s26 [a, b, c] =
 T.ite ((if planB a.I b.I c.L = true then (0 : Int) else (2 : Int)) != (0 : Int)) (T.leaf [D.i 0, D.i (if planB a.I b.I c.L = true then (0 : Int) else (2 : Int))]) (T.need (yes (planB a.I b.I c.L = true ∧ fewC c.L)) (T.need (yes ((↑0 : Int) = (0 : Int) ∧ planB a.I b.I c.L = true ∧ (∀ (x : List D), x ∈ allC c.L (prodF c.L c.L.length) (firstC c.L) → yOK c.L x) ∧ (0 : Int) ≤ (0 : Int) ∧ (0 : Int) ≤ (20000 : Int))) (T.ite (decide ((pickF a.I b.I c.L (allC c.L (prodF c.L c.L.length) (firstC c.L)) (0 : Int)).fst = (0 : Int))) (T.leaf [D.i 1, D.i 1, D.i (↑(Int.toNat (↑(c.L.length + 1) : Int)) : Int), D.i (↑(Int.toNat (c.L.length : Int)) : Int), D.i (↑(Int.toNat (c.L.length : Int)) : Int), D.i (↑(Int.toNat (c.L.length : Int)) : Int), D.i 0, D.l (rowP a.I b.I c.L (pickF a.I b.I c.L (allC c.L (prodF c.L c.L.length) (firstC c.L)) (0 : Int)).snd.fst), D.l (clR a.I b.I c.L (pickF a.I b.I c.L (allC c.L (prodF c.L c.L.length) (firstC c.L)) (0 : Int)).snd.fst), D.l (opR a.I b.I c.L (pickF a.I b.I c.L (allC c.L (prodF c.L c.L.length) (firstC c.L)) (0 : Int)).snd.fst), D.l (pickF a.I b.I c.L (allC c.L (prodF c.L c.L.length) (firstC c.L)) (0 : Int)).snd.fst]) (T.ite (decide ((pickF a.I b.I c.L (allC c.L (prodF c.L c.L.length) (firstC c.L)) (0 : Int)).fst = (9 : Int))) (T.leaf [D.i 0, D.i 9]) (T.leaf [D.i 0, D.i 5]))))) := by kernel_rfl
theorem t26_r7_0 (a b c d e f g : D) : roundRT C tab26 26 (rangeOf C.P 26 7) 0 5 [1, 2, 3, 5, 16] h26_7 y111 [.i 0, a, b, c, d, e] [f, g] =
 T.ite (e.I == (20000 : Int)) (T.leaf (Rd.out Ex.ret [D.i 0, D.i a.I, D.i b.I, D.l c.L, D.i 9, D.i e.I], [D.i (f.I.toNat : Int), D.l g.L])) (T.need (decide (f.I.toNat ≤ g.L.length)) (T.need (yes (planB a.I b.I c.L = true ∧ chOK c.L (List.take f.I.toNat g.L))) (T.ite (duesOk a.I b.I c.L (List.take f.I.toNat g.L)) (T.ite true (T.need (decide (f.I.toNat ≤ g.L.length)) (T.need (yes (planB a.I b.I c.L = true ∧ List.length (List.take f.I.toNat g.L) = c.L.length ∧ (↑(Int.toNat (1 : Int)) : Int) = (1 : Int) ∧ (↑(Int.toNat (↑(c.L.length + 1) : Int)) : Int) = (c.L.length : Int) + (1 : Int) ∧ duOK c.L (pushP true a.I b.I c.L (List.take f.I.toNat g.L)).fst)) (T.leaf (Rd.out Ex.ret [D.i 1, D.i a.I, D.i b.I, D.l c.L, D.i 1, D.i (↑(Int.toNat (↑(c.L.length + 1) : Int)) : Int), D.i (↑(Int.toNat (c.L.length : Int)) : Int), D.i (↑(Int.toNat (c.L.length : Int)) : Int), D.i (↑(Int.toNat (↑(List.length (List.take f.I.toNat g.L)) : Int)) : Int), D.i 0, D.i (IntKind.i64.wrap (e.I + (1 : Int))), D.l (pushP true a.I b.I c.L (List.take f.I.toNat g.L)).fst, D.l (rowF (clG c.L (duF (pushP true a.I b.I c.L (List.take f.I.toNat g.L)).fst)) 0 c.L.length), D.l (rowF (opG a.I c.L (duF (pushP true a.I b.I c.L (List.take f.I.toNat g.L)).fst)) 0 c.L.length), D.l (List.take f.I.toNat g.L)], [D.i (f.I.toNat : Int), D.l g.L])))) (T.leaf (Rd.again [D.i 0, D.i a.I, D.i b.I, D.l c.L, D.i d.I, D.i (IntKind.i64.wrap (e.I + (1 : Int)))], [D.i (f.I.toNat : Int), D.l g.L]))) (T.ite false (T.need (decide (f.I.toNat ≤ g.L.length)) T.fail) (T.leaf (Rd.again [D.i 0, D.i a.I, D.i b.I, D.l c.L, D.i d.I, D.i (IntKind.i64.wrap (e.I + (1 : Int)))], [D.i (f.I.toNat : Int), D.l g.L])))))) := by kernel_rfl
set_option maxRecDepth 100000
section
variable {c f : Int} {w : List (List D)}
theorem all_ok : ∀ (n : Nat) {ch : List (List D)}, carOK w ch → ∀ x ∈ allC w n ch, yOK w x
 | 0, _, _, x, hx => by cases hx
 | n + 1, ch, h, x, hx => by
   simp only [allC, List.mem_cons] at hx
   rcases hx with rfl | hx
   ·refine ⟨?_, h⟩
    show [D.i ch.length, D.l ch] = _
    rw [h.1.1]
    rfl
   ·split at hx
    ·cases hx
    ·exact all_ok n (step_ok h (by omega)) x hx
theorem pick_make : ∀ (k : Nat) {ch : List (List D)} {t : Int}, carOK w ch → t = 20000 - k → (pickF c f w (allC w (restC w ch) ch) t).1 = (makeF c f w k ch).1 ∧ ((makeF c f w k ch).1 = 0 → (pickF c f w (allC w (restC w ch) ch) t).2.1 = (makeF c f w k ch).2)
 | 0, ch, t, h, ht => by
   rw [all_rest h]
   simp only [pickF, makeF]
   rw [if_pos (by omega)]
   exact ⟨rfl, fun h => by simp at h⟩
 | k + 1, ch, t, h, ht => by
   rw [all_rest h]
   have e : chY [.i ch.length, .l ch] = ch := rfl
   simp only [pickF, makeF, e]
   rw [if_neg (by omega)]
   by_cases hd : duesOk c f w ch = true
   ·rw [if_pos hd, if_pos hd]
    exact ⟨rfl, fun _ => rfl⟩
   ·rw [if_neg hd, if_neg hd]
    by_cases hn : (carryF w w.length ch).2 < 0
    ·rw [if_pos hn, if_pos hn]
     simp only [pickF]
     exact ⟨by trivial, fun h => by simp at h⟩
    ·rw [if_neg hn, if_neg hn]
     exact pick_make k (step_ok h (by omega)) (by omega)
theorem make_ok : ∀ (k : Nat) {ch : List (List D)}, carOK w ch → (makeF c f w k ch).1 = 0 ∧ carOK w (makeF c f w k ch).2 ∧ duesOk c f w (makeF c f w k ch).2 = true ∨ (makeF c f w k ch).1 = 5 ∨ (makeF c f w k ch).1 = 9
 | 0, ch, h => .inr (.inr rfl)
 | k + 1, ch, h => by
   simp only [makeF]
   by_cases hd : duesOk c f w ch = true
   ·rw [if_pos hd]
    exact .inl ⟨rfl, h, hd⟩
   ·rw [if_neg hd]
    by_cases hn : (carryF w w.length ch).2 < 0
    ·rw [if_pos hn]
     exact .inr (.inl rfl)
    ·rw [if_neg hn]
     exact make_ok k (step_ok h (by omega))
theorem row_dues {ch : List (List D)} (hp : planB c f w = true) (hc : chOK w ch) (hd : duesOk c f w ch = true) : duOK w (rowP c f w ch) ∧ (rowP c f w ch).drop 1 = dueL c f w ch ∧ rowF (clG w (duF (rowP c f w ch))) 0 w.length = clR c f w ch ∧ rowF (opG c w (duF (rowP c f w ch))) 0 w.length = opR c f w ch := by
 have hr : (pushP true c f w ch).2.2 < 0 := by
  unfold duesOk at hd
  rw [Bool.and_eq_true, decide_eq_true_eq] at hd
  exact hd.2
 have he := (push_ends hp hc).2 hr
 obtain ⟨q1, q2, q3, -⟩ := push_plan true hp hc hr
 obtain ⟨-, -, -, d4, -⟩ := due_least (f := f) hp hc
 have g : ∀ j, duF (rowP c f w ch) j = rg (dueL c f w ch) j := fun j => by
  unfold duF rowP
  rw [← he, rg_drop, Nat.add_comm]
 refine ⟨⟨q3, fun j => ⟨q2 j, ?_⟩⟩, he, rowF_ext _ _ fun j _ _ => ?_, rowF_ext _ _ fun j _ _ => ?_⟩
 ·cases j with
  | zero =>
    have : rg (rowP c f w ch) 0 = 0 := q1
    omega
  | succ j =>
    have := g j
    unfold duF at this
    have := d4 j
    omega
 ·unfold clG
  rw [g]
 ·unfold opG
  rw [g]
end
theorem fold23 (L : List (List D)) : ∀ (ds : List D) (rr : Ex × List D), (G26_7 L ds).run = some rr → FoldR (fun ds el => (roundRT C tab26 26 (rangeOf C.P 26 7) 0 5 [1, 2, 3, 5, 16] h26_7 y111 ds el).run) y111.give (fun a b => headA h26_7 a = headA h26_7 b) ds L rr.1 rr.2 := by
 induction L with
 | nil =>
   intro ds rr h
   unfold G26_7 at h
   split at h
   ·rename_i z c f w e t
    obtain ⟨hp, h⟩ := need_some h
    rw [yes_iff] at hp
    simp only [pickF] at h
    rw [run_ite, if_neg (by simp), run_ite, if_neg (by simp)] at h
    cases h
    exact .nil (by rw [headA_head _ hp.1 (by decide)]; rfl)
   ·cases h
 | cons x L ih =>
   intro ds rr h
   unfold G26_7 at h
   split at h
   ·rename_i z c f w e t
    obtain ⟨hp, h⟩ := need_some h
    rw [yes_iff] at hp
    obtain ⟨hz, hp, hy, ht0, ht1⟩ := hp
    have hx := hy x List.mem_cons_self
    have hxs : ∀ x ∈ L, yOK w.L x := fun y hy' => hy y (List.mem_cons_of_mem _ hy')
    obtain ⟨hxe, hxc⟩ := hx
    generalize hch : chY x = ch at hxe hxc
    have hcl := hxc.1.1
    obtain ⟨p0, p1, -⟩ := plan_of hp
    have htk : ch.take w.L.length = ch := List.take_of_length_le (by omega)
    have e0 : roundRT C tab26 26 (rangeOf C.P 26 7) 0 5 [1, 2, 3, 5, 16] h26_7 y111 [z, c, f, w, e, t] x = roundRT C tab26 26 (rangeOf C.P 26 7) 0 5 [1, 2, 3, 5, 16] h26_7 y111 [.i 0, c, f, w, e, t] [.i w.L.length, .l ch] := by
     rw [roundRT_head _ _ hz (by decide), hxe]
    have hround := congrArg T.run (e0.trans (t26_r7_0 c f w e t (.i w.L.length) (.l ch)))
    simp only [I_i, L_l, Int.toNat_natCast, htk] at hround
    simp only [pickF, hch] at h
    by_cases h20 : t.I = 20000
    ·rw [if_pos h20] at h
     rw [run_ite, if_neg (by simp), run_ite, if_pos (by simp)] at h
     cases h
     refine .out (x' := x) ?_ (fun _ => rfl) (by simp)
     refine hround.trans ?_
     rw [run_ite, if_pos (by simp [h20]), hxe]
     rfl
    ·rw [if_neg h20] at h
     rw [wrap_id (x := t.I + 1) (by omega) (by omega)] at hround
     by_cases hd : duesOk c.I f.I w.L ch = true
     ·rw [if_pos hd] at h
      rw [run_ite, if_pos (by simp)] at h
      cases h
      obtain ⟨r1, r2, r3, r4⟩ := row_dues hp hxc.1 hd
      refine .out (x' := x) ?_ (fun _ => rfl) (by simp)
      refine hround.trans ?_
      have z1 : (Int.toNat 1 : Int) = 1 := rfl
      have e1 : (pushP true c.I f.I w.L ch).1 = rowP c.I f.I w.L ch := rfl
      simp only [e1, r3, r4]
      refine go_false (by simp [h20]) (go_dec (by omega) (go_yes ⟨hp, hxc.1⟩ (go_true hd (go_true rfl (go_dec (by omega) (go_yes ⟨hp, hcl, z1, by omega, r1⟩ ?_))))))
      rw [hxe, hcl]
      rfl
     ·rw [if_neg hd] at h
      have hd : duesOk c.I f.I w.L ch = false := by simpa using hd
      refine .again (x' := x) (ds' := [.i 0, .i c.I, .i f.I, .l w.L, .i e.I, .i (t.I + 1)]) ?_ (fun _ => rfl) (ih _ _ ?_)
      ·refine hround.trans ?_
       refine go_false (by simp [h20]) (go_dec (by omega) (go_yes ⟨hp, hxc.1⟩ (go_false hd (go_false rfl ?_))))
       rw [hxe]
       rfl
      ·refine (need_yes ⟨rfl, hp, hxs, by simp only [I_i]; omega, by simp only [I_i]; omega⟩).trans ?_
       exact h
   ·cases h
theorem ok26_7 (n : Nat) : CodeSim C (n + 6) 0 26 (rangeOf C.P 26 7).code none 0 (rangeS 0 [1, 2, 3, 5, 16] (rangeOf C.P 26 7).1 it26_7 h26_7 G26_7) :=
 range_of hC (sp := sp26) (lp := lp26) (sw := sw26) (rg := rg26) (Y := y111) (yOK_mk _ _ _) ⟨ok69 n, ok71 (n + 3), trivial⟩ ⟨ok70 (n + 5), ok72 (n + 4), trivial⟩ 7 0 5 [] (by kernel_rfl) rfl (by kernel_rfl) (by exact ⟨by kernel_rfl, by kernel_rfl⟩) (fun k hk => by cases hk)
  (by kernel_rfl) (by kernel_rfl) (it := it26_7) ⟨ok111 (n + 5), trivial⟩ fun L ds rr h => fold23 L ds rr h
theorem ok26 (n : Nat) : FnOK C (n + 7) 26 (mkF s26 G26) := by
 refine fn_ofR hC (sp := sp26) (lp := lp26) (sw := sw26) (rg := rg26) ⟨ok69 n, ok71 (n + 3), trivial⟩ ⟨ok70 (n + 5), ok72 (n + 4), trivial⟩ (by kernel_rfl) [] [7] (by kernel_rfl) rfl (by kernel_rfl) (by kernel_rfl) (fun k hk => by cases hk) (fun k hk L hL => by
  simp at hk; subst hk; cases hL; exact ok26_7 n) fun ds r h => ?_
 unfold G26 at h
 split at h
 ·rename_i c f w
  refine (congrArg T.run (t26 c f w)).trans ?_
  cases hp : planB c.I f.I w.L with
  | false =>
    rw [hp] at h
    exact h
  | true =>
    rw [hp] at h
    obtain ⟨hf, h⟩ := need_some (show (T.need _ _).run = some r from h)
    rw [yes_iff] at hf
    have hall := all_ok (w := w.L) (prodF w.L w.L.length) first_ok
    rw [← rest_first] at hall ⊢
    have hpm := pick_make (c := c.I) (f := f.I) (w := w.L) 20000 (ch := firstC w.L) (t := 0) first_ok (by decide)
    have hmk : makeF c.I f.I w.L 20000 (firstC w.L) = foundC c.I f.I w.L := rfl
    rw [hmk] at hpm
    have hcs := make_ok (c := c.I) (f := f.I) (w := w.L) 20000 (ch := firstC w.L) first_ok
    rw [hmk] at hcs
    generalize pickF c.I f.I w.L (allC w.L (restC w.L (firstC w.L)) (firstC w.L)) 0 = pk at hpm ⊢
    obtain ⟨k1, k2⟩ := hpm
    simp only [k1, Int.toNat_natCast, if_true]
    refine go_false rfl (go_yes ⟨by trivial, hf⟩ (go_yes ⟨by trivial, by trivial, hall, by omega, by omega⟩ ?_))
    rcases hcs with ⟨h0, -, -⟩ | h5 | h9
    ·rw [h0, k2 h0]
     rw [h0] at h
     exact h
    ·rw [h5]
     rw [h5] at h
     exact h
    ·rw [h9]
     rw [h9] at h
     exact h
 ·cases h
set_option maxRecDepth 100000
theorem fn_mono {n f : Nat} {s : Sig} {G G' : List D → T (List D)} (h : FnOK C n f (mkF s G)) (hw : ∀ ds r, (G' ds).run = some r → (G ds).run = some r) : FnOK C n f (mkF s G') := h.mono fun args v hb hr => by
 unfold mkF at hr ⊢
 split
 ·rename_i ds hds
  simp only [hds, T.run_map, Option.map_eq_some_iff] at hr ⊢
  obtain ⟨r, h1, h2⟩ := hr
  exact ⟨r, hw _ _ h1, h2⟩
 ·rename_i hds
  simp only [hds] at hr
  cases hr
theorem ok2026 (n : Nat) : FnOK C (n + 7) 26 (mkF s26 G2026) := fn_mono (ok26 n) fun ds r h => by
 unfold G2026 at h
 split at h
 ·rename_i c f w
  obtain ⟨hp, h⟩ := need_some h
  rw [yes_iff] at hp
  refine go_true hp.1 (go_yes hp.2 ?_)
  have hcs := make_ok (c := c.I) (f := f.I) (w := w.L) triesN (ch := firstC w.L) first_ok
  have e : makeF c.I f.I w.L triesN (firstC w.L) = foundC c.I f.I w.L := rfl
  rw [e] at hcs
  rcases hcs with ⟨h0, -, -⟩ | h5 | h9
  ·rw [h0] at h ⊢
   exact h
  ·rw [h5] at h ⊢
   exact h
  ·rw [h9] at h ⊢
   exact h
 ·cases h
section
variable {c f : Int} {w du cl op ch : List (List D)} {lo n n1 n2 n3 : Int}
theorem fnd_of (h : fndT c f w du cl op ch lo n n1 n2 n3) : du.length = w.length + 2 ∧ cl.length = w.length ∧ op.length = w.length ∧ ch.length = w.length ∧ du.drop 1 = dueL c f w ch ∧ (dueL c f w ch).length = w.length + 1 ∧
    (∀ j, rg du (j + 1) = rg (dueL c f w ch) j) ∧ (∀ j, j < w.length → rg cl j = rg (dueL c f w ch) j - ix (w.getD j []) 1 ∧ rg op j = rg (dueL c f w ch) j + busyF c (w.getD j [])) ∧ (∀ j, 0 ≤ rg (dueL c f w ch) j ∧ rg (dueL c f w ch) j ≤ 2000000) ∧ solD c f w ch (rg (dueL c f w ch)) ∧ endsD c w ch (rg (dueL c f w ch)) := by
 obtain ⟨hp, hc, hd, rfl, rfl, rfl, -⟩ := h
 obtain ⟨r1, r2, -, -⟩ := row_dues hp hc.1 hd
 obtain ⟨d1, -, d3, d4, -⟩ := due_least (f := f) hp hc.1
 refine ⟨r1.1, len_rowF _ _ _, len_rowF _ _ _, hc.1.1, r2, d1, fun j => ?_, fun j hj => ⟨?_, ?_⟩, fun j => ⟨d3.2.1 j, d4 j⟩, d3, ?_⟩
 ·rw [← r2, rg_drop, Nat.add_comm]
 ·unfold clR
  rw [rg_rowF hj, Nat.zero_add]
  rfl
 ·unfold opR
  rw [rg_rowF hj, Nat.zero_add]
  rfl
 ·unfold duesOk at hd
  rw [Bool.and_eq_true, decide_eq_true_eq] at hd
  exact (push_ends hp hc.1).1.1 hd.2
end
theorem prod_le {w : List (List D)} (h : ∀ j, hoursN w j ≤ 10) : ∀ k, prodF w k ≤ 10 ^ k
 | 0 => Nat.le_refl _
 | k + 1 => by
   have a := prod_le h k
   have b := h k
   simp only [prodF, Nat.pow_succ]
   exact Nat.mul_le_mul a (by omega)
section
variable {c f : Int} {w : List (List D)}
theorem found_ok (h : (foundC c f w).1 = 0) : carOK w (foundC c f w).2 ∧ duesOk c f w (foundC c f w).2 = true := by
 have hcs := make_ok (c := c) (f := f) (w := w) triesN (ch := firstC w) first_ok
 have e : makeF c f w triesN (firstC w) = foundC c f w := rfl
 rw [e] at hcs
 rcases hcs with h0 | h5 | h9
 ·exact h0.2
 ·omega
 ·omega
theorem found_fnd (hp : planB c f w = true) {ch : List (List D)} (hc : carOK w ch) (hd : duesOk c f w ch = true) : fndT c f w (rowP c f w ch) (clR c f w ch) (opR c f w ch) ch 1 ((w.length + 1 : Nat) : Int) w.length w.length w.length :=
 ⟨hp, hc, hd, rfl, rfl, rfl, rfl, by omega, rfl, rfl, rfl⟩
end
theorem few_plan {c f : Int} {w : List (List D)} (h : planS c f w = true) : planB c f w = true ∧ fewC w ∧ w.length ≤ 6 := by
 unfold planS at h
 rw [Bool.and_eq_true, Bool.and_eq_true, decide_eq_true_eq] at h
 obtain ⟨⟨h6, -⟩, hp⟩ := h
 refine ⟨hp, ?_, h6⟩
 have h : ∀ j, hoursN w j ≤ 10 := fun j => by
  by_cases hj : j < w.length
  ·have := (wayC_of (way_of hp hj).1).2.2.2.2.2.2
   unfold hoursN
   omega
  ·unfold hoursN
   rw [List.getD_eq_getElem?_getD, List.getElem?_eq_none (by omega)]
   show ((([] : List (List D)).length : Nat) : Int) ≤ 10
   decide
 unfold fewC
 exact Nat.le_trans (prod_le h _) (Nat.le_trans (Nat.pow_le_pow_right (by decide) h6) (by decide))
theorem due_ok {c f : Int} {w du cl op ch : List (List D)} {lo n n1 n2 n3 : Int} (h : fndT c f w du cl op ch lo n n1 n2 n3) {k : Int} {q : Nat} (k0 : 0 ≤ k) (k1 : k ≤ c - 1) (hq : q < w.length) : dueB c f w (dueL c f w ch) k q = true := by
 obtain ⟨-, -, -, -, -, l5, -, -, gd, -⟩ := fnd_of h
 unfold dueB
 rw [h.1, timed_mk (by rw [l5]; rfl) (fun i _ => by have := gd i; omega), Bool.true_and, Bool.true_and, decide_eq_true_eq]
 omega
theorem due_wait {c f : Int} {w du cl op ch : List (List D)} {lo n n1 n2 n3 : Int} (h : fndT c f w du cl op ch lo n n1 n2 n3) {k : Nat} (hk : k + 1 < w.length) (hg : bx (w.getD (k + 1) []) 4 = true) :
    dueF w (dueL c f w ch) (c - 1) k + ix (w.getD k []) 0 + ix (w.getD (k + 1) []) 5 ≤ dueF w (dueL c f w ch) 0 (k + 1) := by
 have hs := (fnd_of h).2.2.2.2.2.2.2.2.2.1
 have h1 := (hs.2.2 k (by omega)).1
 unfold leW at h1
 rw [if_pos ⟨hk, hg⟩] at h1
 unfold dueF
 unfold spanF at h1
 omega
noncomputable def sp139 : SpL := []
noncomputable def lp139 : LpL := []
noncomputable def sw139 : SwL := []
noncomputable def tab139 : Tab := mkTab sp139 lp139 sw139
noncomputable def sp116 : SpL := [(139, mkF s139 G139)]
noncomputable def lp116 : LpL := []
noncomputable def sw116 : SwL := []
noncomputable def tab116 : Tab := mkTab sp116 lp116 sw116
noncomputable def sp75 : SpL := [(116, mkF s116 G116)]
noncomputable def lp75 : LpL := [(2, mkL l75_2 G75_2)]
noncomputable def sw75 : SwL := []
noncomputable def tab75 : Tab := mkTab sp75 lp75 sw75
noncomputable def sp76 : SpL := []
noncomputable def lp76 : LpL := [(3, mkL l76_3 G76_3)]
noncomputable def sw76 : SwL := []
noncomputable def tab76 : Tab := mkTab sp76 lp76 sw76
noncomputable def sp74 : SpL := [(76, mkF s76 G76), (75, mkF s75 G75)]
noncomputable def lp74 : LpL := []
noncomputable def sw74 : SwL := []
noncomputable def tab74 : Tab := mkTab sp74 lp74 sw74
noncomputable def sp77 : SpL := []
noncomputable def lp77 : LpL := [(3, mkL l77_3 G77_3), (9, mkL l77_9 G77_9)]
noncomputable def sw77 : SwL := []
noncomputable def tab77 : Tab := mkTab sp77 lp77 sw77
noncomputable def sp78 : SpL := [(74, mkF s74 G74)]
noncomputable def lp78 : LpL := [(3, mkL l78_3 G78_3)]
noncomputable def sw78 : SwL := []
noncomputable def tab78 : Tab := mkTab sp78 lp78 sw78
noncomputable def sp73 : SpL := [(64, mkF s64 G64)]
noncomputable def lp73 : LpL := [(2, mkL l73_2 G73_2), (7, mkL l73_7 G73_7)]
noncomputable def sw73 : SwL := []
noncomputable def tab73 : Tab := mkTab sp73 lp73 sw73
noncomputable def sp27 : SpL := [(46, mkF s46 G46)]
noncomputable def lp27 : LpL := [(4, mkL l27_4 G27_4), (9, mkL l27_9 G27_9)]
noncomputable def sw27 : SwL := []
noncomputable def tab27 : Tab := mkTab sp27 lp27 sw27
noncomputable def sp31 : SpL := [(47, mkF s47 G47), (64, mkF s64 G64), (48, mkF s48 G48)]
noncomputable def lp31 : LpL := [(4, mkL l31_4 G31_4)]
noncomputable def sw31 : SwL := []
noncomputable def tab31 : Tab := mkTab sp31 lp31 sw31
noncomputable def sp28 : SpL := [(73, mkF s73 G73), (64, mkF s64 G64), (77, mkF s77 G77), (78, mkF s78 G78), (76, mkF s76 G76)]
noncomputable def lp28 : LpL := [(6, mkL l28_6 G28_6)]
noncomputable def sw28 : SwL := []
noncomputable def tab28 : Tab := mkTab sp28 lp28 sw28
noncomputable def sp29 : SpL := [(73, mkF s73 G73), (64, mkF s64 G64), (77, mkF s77 G77)]
noncomputable def lp29 : LpL := [(5, mkL l29_5 G29_5)]
noncomputable def sw29 : SwL := []
noncomputable def tab29 : Tab := mkTab sp29 lp29 sw29
noncomputable def sp24 : SpL := [(66, mkF s66 G66)]
noncomputable def lp24 : LpL := [(4, mkL l24_4 G24_4)]
noncomputable def sw24 : SwL := []
noncomputable def tab24 : Tab := mkTab sp24 lp24 sw24
set_option linter.unusedVariables false
set_option maxRecDepth 100000
theorem t139 (a : D) : fnT C tab139 139 s139 [a] =
 T.leaf [D.b (a.I != a.I)] := by kernel_rfl
theorem t116 (a b : D) : fnT C tab116 116 s116 [a, b] =
 T.ite false (T.ite false (T.leaf [D.i 0]) (T.leaf [D.i (-1 : Int)])) (T.ite false (T.leaf [D.i 1]) (T.ite (decide (a.I < b.I)) (T.leaf [D.i (-1 : Int)]) (T.ite (decide (a.I > b.I)) (T.leaf [D.i 1]) (T.leaf [D.i 0])))) := by kernel_rfl
theorem t75 (a b : D) : fnT C tab75 75 s75 [a, b] =
 T.need (yes (a.L.length < big ∧ b.L.length < big ∧ a.L = a.L ∧ (a.L.length : Int) = (a.L.length : Int) ∧ (0 : Int) ≤ (0 : Int) ∧ (0 : Int) ≤ (a.L.length : Int))) (T.ite (decide (cmpFrom a.L b.L (Int.toNat (0 : Int)) (a.L.length - Int.toNat (0 : Int)) = (0 : Int))) (T.ite (decide ((a.L.length : Int) < (b.L.length : Int))) (T.leaf [D.i (-1 : Int)]) (T.leaf [D.i 0])) (T.leaf [D.i (cmpFrom a.L b.L (Int.toNat (0 : Int)) (a.L.length - Int.toNat (0 : Int)))])) := by kernel_rfl
theorem t75_2 (a b c d e : D) : roundT C tab75 75 (loopOf C.P 75 2) l75_2 [a, b, c, d, e] =
 T.ite (decide (e.I < d.I)) (T.need (decide ((0 : Int) ≤ e.I ∧ e.I < (c.L.length : Int))) (T.ite (decide (e.I ≥ (b.L.length : Int))) (T.leaf (Rd.out Ex.ret [D.i 1])) (T.need (decide ((0 : Int) ≤ e.I ∧ e.I < (b.L.length : Int))) (T.ite (cmpI (D.I (List.getD (List.getD c.L e.I.toNat []) 0 default)) (D.I (List.getD (List.getD b.L e.I.toNat []) 0 default)) != (0 : Int)) (T.leaf (Rd.out Ex.ret [D.i (cmpI (D.I (List.getD (List.getD c.L e.I.toNat []) 0 default)) (D.I (List.getD (List.getD b.L e.I.toNat []) 0 default)))])) (T.leaf (Rd.again [D.l a.L, D.l b.L, D.l c.L, D.i d.I, D.i (IntKind.i64.wrap (e.I + (1 : Int)))])))))) (T.leaf (Rd.out (Ex.exit 0) [D.l a.L, D.l b.L])) := by kernel_rfl
theorem t76 (a : D) : fnT C tab76 76 s76 [a] =
 T.need (yes (D.i (↑0 : Int) = D.i 0 ∧ (0 : Int) ≤ a.I ∧ a.I < (1048576 : Int) ∧ (0 : Int) ≤ (0 : Int) ∧ (0 : Int) ≤ (20 : Int))) (T.ite (List.isEmpty (bitsFrom a.I.toNat (Int.toNat (0 : Int)) (20 - Int.toNat (0 : Int)))) (T.leaf [D.i 0]) (T.leaf [D.i 1, D.i (↑(Int.toNat (↑(List.length (bitsFrom a.I.toNat (Int.toNat (0 : Int)) (20 - Int.toNat (0 : Int)))) : Int)) : Int), D.l (mkI (bitsFrom a.I.toNat (Int.toNat (0 : Int)) (20 - Int.toNat (0 : Int))))])) := by kernel_rfl
theorem t76_3_0 (a b : D) : roundT C tab76 76 (loopOf C.P 76 3) l76_3 [.i 0, a, b] =
 T.need (!decide (b.I < (0 : Int))) (T.ite (Int.fdiv a.I ((2 : Int) ^ min b.I.toNat (IntKind.bits IntKind.u64)) != (0 : Int)) (T.need (!decide (b.I < (0 : Int))) (T.ite (IntKind.wrap IntKind.u64 (↑(BitVec.toNat (BitVec.ofInt (IntKind.bits IntKind.u64) (Int.fdiv a.I ((2 : Int) ^ min b.I.toNat (IntKind.bits IntKind.u64))) &&& BitVec.ofInt (IntKind.bits IntKind.u64) (1 : Int))) : Int) == (1 : Int)) (T.need true (T.ite false (T.leaf (Rd.again [D.i 0, D.i a.I, D.i (IntKind.i64.wrap (b.I + (1 : Int)))])) (T.need true (T.leaf (Rd.again [D.i 1, D.i a.I, D.i 1, D.i (IntKind.i64.wrap (b.I + (1 : Int))), D.l [[D.i b.I]]]))))) (T.leaf (Rd.again [D.i 0, D.i a.I, D.i (IntKind.i64.wrap (b.I + (1 : Int)))])))) (T.leaf (Rd.out (Ex.exit 0) [D.i 0]))) := by kernel_rfl
theorem t76_3_1 (a b c d : D) : roundT C tab76 76 (loopOf C.P 76 3) l76_3 [.i 1, a, b, c, d] =
 T.need (!decide (c.I < (0 : Int))) (T.ite (Int.fdiv a.I ((2 : Int) ^ min c.I.toNat (IntKind.bits IntKind.u64)) != (0 : Int)) (T.need (!decide (c.I < (0 : Int))) (T.ite (IntKind.wrap IntKind.u64 (↑(BitVec.toNat (BitVec.ofInt (IntKind.bits IntKind.u64) (Int.fdiv a.I ((2 : Int) ^ min c.I.toNat (IntKind.bits IntKind.u64))) &&& BitVec.ofInt (IntKind.bits IntKind.u64) (1 : Int))) : Int) == (1 : Int)) (T.need true (T.ite false (T.leaf (Rd.again [D.i 1, D.i a.I, D.i (b.I.toNat : Int), D.i (IntKind.i64.wrap (c.I + (1 : Int))), D.l d.L])) (T.need (decide (b.I.toNat ≤ d.L.length ∧ b.I.toNat + 1 ≤ 2 ^ 62 ∧ (b.I.toNat + 1) * Try.prog.types[3].bytes ≤ 2 ^ 47)) (T.leaf (Rd.again [D.i 1, D.i a.I, D.i (↑(b.I.toNat + 1) : Int), D.i (IntKind.i64.wrap (c.I + (1 : Int))), D.l (List.take b.I.toNat d.L ++ List.take (List.length [[D.i c.I]]) [[D.i c.I]])]))))) (T.leaf (Rd.again [D.i 1, D.i a.I, D.i (b.I.toNat : Int), D.i (IntKind.i64.wrap (c.I + (1 : Int))), D.l d.L])))) (T.leaf (Rd.out (Ex.exit 0) [D.i 1, D.i (b.I.toNat : Int), D.l d.L]))) := by kernel_rfl
theorem t74 (a b c d e f : D) : fnT C tab74 74 s74 [a, b, c, d, e, f] =
 T.ite (b.I != e.I) (T.leaf [D.b (decide (b.I > e.I))]) (T.ite (c.I != f.I) (T.leaf [D.b (decide (c.I < f.I))]) (T.need (yes ((0 : Int) ≤ a.I ∧ a.I < (1048576 : Int))) (T.ite (List.isEmpty (bitsL a.I.toNat)) (T.need (yes ((0 : Int) ≤ d.I ∧ d.I < (1048576 : Int))) (T.ite (List.isEmpty (bitsL d.I.toNat)) (T.need (yes (List.length ([] : List (List D)) < big ∧ List.length ([] : List (List D)) < big)) (T.leaf [D.b false])) (T.need (decide (Int.toNat (↑(List.length (bitsL d.I.toNat)) : Int) ≤ List.length (mkI (bitsL d.I.toNat)))) (T.need (yes (List.length ([] : List (List D)) < big ∧ List.length (List.take (Int.toNat (↑(List.length (bitsL d.I.toNat)) : Int)) (mkI (bitsL d.I.toNat))) < big)) (T.leaf [D.b (decide (cmpL [] (List.take (Int.toNat (↑(List.length (bitsL d.I.toNat)) : Int)) (mkI (bitsL d.I.toNat))) < (0 : Int)))]))))) (T.need (yes ((0 : Int) ≤ d.I ∧ d.I < (1048576 : Int))) (T.ite (List.isEmpty (bitsL d.I.toNat)) (T.need (decide (Int.toNat (↑(List.length (bitsL a.I.toNat)) : Int) ≤ List.length (mkI (bitsL a.I.toNat)))) (T.need (yes (List.length (List.take (Int.toNat (↑(List.length (bitsL a.I.toNat)) : Int)) (mkI (bitsL a.I.toNat))) < big ∧ List.length ([] : List (List D)) < big)) (T.leaf [D.b (decide (cmpL (List.take (Int.toNat (↑(List.length (bitsL a.I.toNat)) : Int)) (mkI (bitsL a.I.toNat))) [] < (0 : Int)))]))) (T.need (decide (Int.toNat (↑(List.length (bitsL a.I.toNat)) : Int) ≤ List.length (mkI (bitsL a.I.toNat)))) (T.need (decide (Int.toNat (↑(List.length (bitsL d.I.toNat)) : Int) ≤ List.length (mkI (bitsL d.I.toNat)))) (T.need (yes (List.length (List.take (Int.toNat (↑(List.length (bitsL a.I.toNat)) : Int)) (mkI (bitsL a.I.toNat))) < big ∧ List.length (List.take (Int.toNat (↑(List.length (bitsL d.I.toNat)) : Int)) (mkI (bitsL d.I.toNat))) < big)) (T.leaf [D.b (decide (cmpL (List.take (Int.toNat (↑(List.length (bitsL a.I.toNat)) : Int)) (mkI (bitsL a.I.toNat))) (List.take (Int.toNat (↑(List.length (bitsL d.I.toNat)) : Int)) (mkI (bitsL d.I.toNat))) < (0 : Int)))]))))))))) := by kernel_rfl
theorem t77 (a b c : D) : fnT C tab77 77 s77 [a, b, c] =
 T.need (yes (jobsOk a.L = true ∧ (0 : Int) ≤ c.I ∧ c.I < (1048576 : Int) ∧ (a.L.length : Int) = (a.L.length : Int) ∧ (0 : Int) ≤ (0 : Int) ∧ (0 : Int) ≤ (a.L.length : Int) ∧ (0 : Int) ≤ (0 : Int) ∧ (0 : Int) ≤ (1000000 : Int) * (0 : Int) ∧ (0 : Int) ≤ (0 : Int) ∧ (0 : Int) ≤ (1000 : Int) * (0 : Int))) (T.ite (worthFrom a.L c.I.toNat (Int.toNat (0 : Int)) (a.L.length - Int.toNat (0 : Int)) (0 : Int) (0 : Int)).snd.snd (T.leaf [D.i (worthFrom a.L c.I.toNat (Int.toNat (0 : Int)) (a.L.length - Int.toNat (0 : Int)) (0 : Int) (0 : Int)).fst, D.i (worthFrom a.L c.I.toNat (Int.toNat (0 : Int)) (a.L.length - Int.toNat (0 : Int)) (0 : Int) (0 : Int)).snd.fst, D.b (decide ((worthFrom a.L c.I.toNat (Int.toNat (0 : Int)) (a.L.length - Int.toNat (0 : Int)) (0 : Int) (0 : Int)).snd.fst ≤ b.I))]) (T.leaf [D.i 0, D.i 0, D.b false])) := by kernel_rfl
theorem t77_3 (a b c d e f g : D) : roundT C tab77 77 (loopOf C.P 77 3) l77_3 [a, b, c, d, e, f, g] =
 T.ite (decide (g.I < f.I)) (T.need (decide ((0 : Int) ≤ g.I ∧ g.I < (e.L.length : Int))) (T.need (!decide (g.I < (0 : Int))) (T.ite (IntKind.wrap IntKind.u64 (↑(BitVec.toNat (BitVec.ofInt (IntKind.bits IntKind.u64) (Int.fdiv b.I ((2 : Int) ^ min g.I.toNat (IntKind.bits IntKind.u64))) &&& BitVec.ofInt (IntKind.bits IntKind.u64) (1 : Int))) : Int) == (0 : Int)) (T.ite (D.B (List.getD (List.getD e.L g.I.toNat []) (0 + 1 + 1) default)) (T.leaf (Rd.out Ex.ret [D.i 0, D.i 0, D.b false])) (T.leaf (Rd.again [D.i a.I, D.i b.I, D.i c.I, D.i d.I, D.l e.L, D.i f.I, D.i (IntKind.i64.wrap (g.I + (1 : Int)))]))) (T.need (yes ((0 : Int) ≤ b.I ∧ b.I < (1048576 : Int) ∧ (↑(List.length (D.L (List.getD (List.getD e.L g.I.toNat []) (0 + 1 + 1 + 1) default))) : Int) = (↑(List.length (D.L (List.getD (List.getD e.L g.I.toNat []) (0 + 1 + 1 + 1) default))) : Int) ∧ (0 : Int) ≤ (0 : Int) ∧ (0 : Int) ≤ (↑(List.length (D.L (List.getD (List.getD e.L g.I.toNat []) (0 + 1 + 1 + 1) default))) : Int) ∧ List.length (D.L (List.getD (List.getD e.L g.I.toNat []) (0 + 1 + 1 + 1) default)) ≤ 30 ∧ allFrom (fun j => within (ix (List.getD (D.L (List.getD (List.getD e.L g.I.toNat []) (0 + 1 + 1 + 1) default)) j []) 0) (0 : Int) (30 : Int)) 0 (List.length (D.L (List.getD (List.getD e.L g.I.toNat []) (0 + 1 + 1 + 1) default))) = true)) (T.ite (allFrom (bitAt b.I.toNat (D.L (List.getD (List.getD e.L g.I.toNat []) (0 + 1 + 1 + 1) default))) (Int.toNat (0 : Int)) (List.length (D.L (List.getD (List.getD e.L g.I.toNat []) (0 + 1 + 1 + 1) default)) - Int.toNat (0 : Int))) (T.leaf (Rd.again [D.i a.I, D.i b.I, D.i (IntKind.i64.wrap (c.I + D.I (List.getD (List.getD e.L g.I.toNat []) (0 + 1) default))), D.i (IntKind.i64.wrap (d.I + D.I (List.getD (List.getD e.L g.I.toNat []) 0 default))), D.l e.L, D.i f.I, D.i (IntKind.i64.wrap (g.I + (1 : Int)))])) (T.leaf (Rd.out Ex.ret [D.i 0, D.i 0, D.b false]))))))) (T.leaf (Rd.out (Ex.exit 0) [D.i a.I, D.i c.I, D.i d.I])) := by kernel_rfl
theorem t77_9 (a b c d e f g h i j k l m n : D) : roundT C tab77 77 (loopOf C.P 77 9) l77_9 [a, b, c, d, e, f, g, h, i, j, k, l, m, n] =
 T.ite (decide (j.I < i.I)) (T.need (decide ((0 : Int) ≤ j.I ∧ j.I < (h.L.length : Int))) (T.need (!decide (D.I (List.getD (List.getD h.L j.I.toNat []) 0 default) < (0 : Int))) (T.ite (IntKind.wrap IntKind.u64 (↑(BitVec.toNat (BitVec.ofInt (IntKind.bits IntKind.u64) (Int.fdiv b.I ((2 : Int) ^ min (Int.toNat (D.I (List.getD (List.getD h.L j.I.toNat []) 0 default))) (IntKind.bits IntKind.u64))) &&& BitVec.ofInt (IntKind.bits IntKind.u64) (1 : Int))) : Int) == (0 : Int)) (T.leaf (Rd.out Ex.ret [D.i 0, D.i 0, D.b false])) (T.leaf (Rd.again [D.i a.I, D.i b.I, D.i c.I, D.i d.I, D.l e.L, D.i f.I, D.i g.I, D.l h.L, D.i i.I, D.i (IntKind.i64.wrap (j.I + (1 : Int))), D.i k.I, D.i l.I, D.b m.B, D.l n.L]))))) (T.leaf (Rd.out (Ex.exit 2) [D.i a.I, D.i b.I, D.i c.I, D.i d.I, D.l e.L, D.i f.I, D.i g.I, D.i k.I, D.i l.I, D.b m.B, D.l n.L])) := by kernel_rfl
theorem t78 (a : D) : fnT C tab78 78 s78 [a] =
 T.need (decide ((0 : Int) ≤ (0 : Int) ∧ (0 : Int) < (a.L.length : Int))) (T.need (decide ((0 : Int) ≤ (1 : Int) ∧ (1 : Int) ≤ (a.L.length : Int))) (T.need (yes (List.length (List.take (a.L.length - Int.toNat (1 : Int)) (List.drop (Int.toNat (1 : Int)) a.L)) ≤ 1 ∧ (↑(List.length (List.take (a.L.length - Int.toNat (1 : Int)) (List.drop (Int.toNat (1 : Int)) a.L))) : Int) = (↑(List.length (List.take (a.L.length - Int.toNat (1 : Int)) (List.drop (Int.toNat (1 : Int)) a.L))) : Int) ∧ (0 : Int) ≤ (0 : Int) ∧ (0 : Int) ≤ (↑(List.length (List.take (a.L.length - Int.toNat (1 : Int)) (List.drop (Int.toNat (1 : Int)) a.L))) : Int) ∧ isSet [D.i (D.I (List.getD (List.getD a.L (Int.toNat (0 : Int)) []) 0 default)), D.i (D.I (List.getD (List.getD a.L (Int.toNat (0 : Int)) []) (0 + 1) default)), D.i (D.I (List.getD (List.getD a.L (Int.toNat (0 : Int)) []) (0 + 1 + 1) default))] ∧ isSet (List.getD (List.take (a.L.length - Int.toNat (1 : Int)) (List.drop (Int.toNat (1 : Int)) a.L)) 0 []))) (T.leaf [D.i (ix (outR (List.take (a.L.length - Int.toNat (1 : Int)) (List.drop (Int.toNat (1 : Int)) a.L)) (0 : Int) [D.i (D.I (List.getD (List.getD a.L (Int.toNat (0 : Int)) []) 0 default)), D.i (D.I (List.getD (List.getD a.L (Int.toNat (0 : Int)) []) (0 + 1) default)), D.i (D.I (List.getD (List.getD a.L (Int.toNat (0 : Int)) []) (0 + 1 + 1) default))]) 0), D.i (ix (outR (List.take (a.L.length - Int.toNat (1 : Int)) (List.drop (Int.toNat (1 : Int)) a.L)) (0 : Int) [D.i (D.I (List.getD (List.getD a.L (Int.toNat (0 : Int)) []) 0 default)), D.i (D.I (List.getD (List.getD a.L (Int.toNat (0 : Int)) []) (0 + 1) default)), D.i (D.I (List.getD (List.getD a.L (Int.toNat (0 : Int)) []) (0 + 1 + 1) default))]) 1), D.i (ix (outR (List.take (a.L.length - Int.toNat (1 : Int)) (List.drop (Int.toNat (1 : Int)) a.L)) (0 : Int) [D.i (D.I (List.getD (List.getD a.L (Int.toNat (0 : Int)) []) 0 default)), D.i (D.I (List.getD (List.getD a.L (Int.toNat (0 : Int)) []) (0 + 1) default)), D.i (D.I (List.getD (List.getD a.L (Int.toNat (0 : Int)) []) (0 + 1 + 1) default))]) 2)]))) := by kernel_rfl
theorem t78_3 (a b c d e f g h i : D) : roundT C tab78 78 (loopOf C.P 78 3) l78_3 [a, b, c, d, e, f, g, h, i] =
 T.ite (decide (c.I < b.I)) (T.need (decide ((0 : Int) ≤ c.I ∧ c.I < (a.L.length : Int))) (T.need (yes ((0 : Int) ≤ D.I (List.getD (List.getD a.L c.I.toNat []) 0 default) ∧ D.I (List.getD (List.getD a.L c.I.toNat []) 0 default) < (1048576 : Int) ∧ (0 : Int) ≤ g.I ∧ g.I < (1048576 : Int))) (T.ite (betterB (Int.toNat (D.I (List.getD (List.getD a.L c.I.toNat []) 0 default))) (D.I (List.getD (List.getD a.L c.I.toNat []) (0 + 1) default)) (D.I (List.getD (List.getD a.L c.I.toNat []) (0 + 1 + 1) default)) g.I.toNat h.I i.I) (T.leaf (Rd.again [D.l a.L, D.i b.I, D.i (IntKind.i64.wrap (c.I + (1 : Int))), D.i d.I, D.i e.I, D.i f.I, D.i (D.I (List.getD (List.getD a.L c.I.toNat []) 0 default)), D.i (D.I (List.getD (List.getD a.L c.I.toNat []) (0 + 1) default)), D.i (D.I (List.getD (List.getD a.L c.I.toNat []) (0 + 1 + 1) default))])) (T.leaf (Rd.again [D.l a.L, D.i b.I, D.i (IntKind.i64.wrap (c.I + (1 : Int))), D.i d.I, D.i e.I, D.i f.I, D.i g.I, D.i h.I, D.i i.I]))))) (T.leaf (Rd.out (Ex.exit 0) [D.i d.I, D.i e.I, D.i f.I, D.i g.I, D.i h.I, D.i i.I])) := by kernel_rfl
theorem t73 (a : D) : fnT C tab73 73 s73 [a] =
 T.need (yes (needsOk a.L = true ∧ a.L = a.L ∧ (a.L.length : Int) = (a.L.length : Int) ∧ (0 : Int) ≤ (0 : Int) ∧ (0 : Int) ≤ (a.L.length : Int))) (T.ite (allFrom (jobAt a.L) (Int.toNat (0 : Int)) (a.L.length - Int.toNat (0 : Int))) (T.leaf [D.b (decide ((a.L.length : Int) ≤ (20 : Int)))]) (T.leaf [D.b false])) := by kernel_rfl
theorem t73_2 (a b c d : D) : roundT C tab73 73 (loopOf C.P 73 2) l73_2 [a, b, c, d] =
 T.ite (decide (d.I < c.I)) (T.need (decide ((0 : Int) ≤ d.I ∧ d.I < (b.L.length : Int))) (T.ite (!within (D.I (List.getD (List.getD b.L d.I.toNat []) 0 default)) (0 : Int) (1000 : Int)) (T.leaf (Rd.out Ex.ret [D.b false])) (T.ite (!within (D.I (List.getD (List.getD b.L d.I.toNat []) (0 + 1) default)) (0 : Int) (1000000 : Int)) (T.leaf (Rd.out Ex.ret [D.b false])) (T.need (yes (D.L (List.getD (List.getD b.L d.I.toNat []) (0 + 1 + 1 + 1) default) = D.L (List.getD (List.getD b.L d.I.toNat []) (0 + 1 + 1 + 1) default) ∧ (↑(List.length (D.L (List.getD (List.getD b.L d.I.toNat []) (0 + 1 + 1 + 1) default))) : Int) = (↑(List.length (D.L (List.getD (List.getD b.L d.I.toNat []) (0 + 1 + 1 + 1) default))) : Int) ∧ List.length (D.L (List.getD (List.getD b.L d.I.toNat []) (0 + 1 + 1 + 1) default)) ≤ 30 ∧ (0 : Int) ≤ d.I ∧ d.I ≤ (100 : Int) ∧ (0 : Int) ≤ (0 : Int) ∧ (0 : Int) ≤ (↑(List.length (D.L (List.getD (List.getD b.L d.I.toNat []) (0 + 1 + 1 + 1) default))) : Int))) (T.ite (allFrom (needJ d.I (D.L (List.getD (List.getD b.L d.I.toNat []) (0 + 1 + 1 + 1) default))) (Int.toNat (0 : Int)) (List.length (D.L (List.getD (List.getD b.L d.I.toNat []) (0 + 1 + 1 + 1) default)) - Int.toNat (0 : Int))) (T.leaf (Rd.again [D.l a.L, D.l b.L, D.i c.I, D.i (IntKind.i64.wrap (d.I + (1 : Int)))])) (T.leaf (Rd.out Ex.ret [D.b false]))))))) (T.leaf (Rd.out (Ex.exit 0) [D.l a.L])) := by kernel_rfl
theorem t73_7 (a b c d e f g h i j k l : D) : roundT C tab73 73 (loopOf C.P 73 7) l73_7 [a, b, c, d, e, f, g, h, i, j, k, l] =
 T.ite (decide (h.I < g.I)) (T.need (decide ((0 : Int) ≤ h.I ∧ h.I < (f.L.length : Int))) (T.ite (!within (D.I (List.getD (List.getD f.L h.I.toNat []) 0 default)) (0 : Int) (IntKind.i64.wrap (b.I - (1 : Int)))) (T.leaf (Rd.out Ex.ret [D.b false])) (T.ite (decide (h.I > (0 : Int))) (T.need (decide ((0 : Int) ≤ IntKind.i64.wrap (h.I - (1 : Int)) ∧ IntKind.i64.wrap (h.I - (1 : Int)) < (l.L.length : Int))) (T.ite (decide (D.I (List.getD (List.getD f.L h.I.toNat []) 0 default) ≤ D.I (List.getD (List.getD l.L (Int.toNat (IntKind.i64.wrap (h.I - (1 : Int)))) []) 0 default))) (T.leaf (Rd.out Ex.ret [D.b false])) (T.leaf (Rd.again [D.l a.L, D.i b.I, D.l c.L, D.i d.I, D.i e.I, D.l f.L, D.i g.I, D.i (IntKind.i64.wrap (h.I + (1 : Int))), D.i i.I, D.i j.I, D.b k.B, D.l l.L])))) (T.leaf (Rd.again [D.l a.L, D.i b.I, D.l c.L, D.i d.I, D.i e.I, D.l f.L, D.i g.I, D.i (IntKind.i64.wrap (h.I + (1 : Int))), D.i i.I, D.i j.I, D.b k.B, D.l l.L]))))) (T.leaf (Rd.out (Ex.exit 2) [D.l a.L, D.l c.L, D.i d.I, D.i e.I])) := by kernel_rfl
theorem t27 (a b : D) : fnT C tab27 27 s27 [a, b] =
 T.ite (decide ((a.L.length : Int) > (20 : Int))) (T.leaf [D.b false]) (T.ite (!within b.I (0 : Int) (10000 : Int)) (T.leaf [D.b false]) (T.need (yes (needsW a.L ∧ (0 : Int) ≤ (0 : Int) ∧ (0 : Int) ≤ (a.L.length : Int))) (T.ite (allFrom (jobAt a.L) (Int.toNat (0 : Int)) (a.L.length - Int.toNat (0 : Int))) (T.leaf [D.b true]) (T.leaf [D.b false])))) := by kernel_rfl
theorem t27_4 (a b : D) : roundT C tab27 27 (loopOf C.P 27 4) l27_4 [a, b] =
 T.ite (decide (b.I < (a.L.length : Int))) (T.need (decide ((0 : Int) ≤ b.I ∧ b.I < (a.L.length : Int))) (T.ite (!within (D.I (List.getD (List.getD a.L b.I.toNat []) 0 default)) (0 : Int) (1000 : Int)) (T.leaf (Rd.out Ex.ret [D.b false])) (T.need (decide ((0 : Int) ≤ b.I ∧ b.I < (a.L.length : Int))) (T.ite (!within (D.I (List.getD (List.getD a.L b.I.toNat []) (0 + 1) default)) (0 : Int) (1000000 : Int)) (T.leaf (Rd.out Ex.ret [D.b false])) (T.need (yes (needsW a.L ∧ (0 : Int) ≤ b.I ∧ b.I < (a.L.length : Int) ∧ (0 : Int) ≤ (0 : Int) ∧ (0 : Int) ≤ (↑(List.length (lx (List.getD a.L b.I.toNat []) 3)) : Int))) (T.ite (allFrom (needJ b.I (lx (List.getD a.L b.I.toNat []) 3)) (Int.toNat (0 : Int)) (List.length (lx (List.getD a.L b.I.toNat []) 3) - Int.toNat (0 : Int))) (T.leaf (Rd.again [D.l a.L, D.i (IntKind.i64.wrap (b.I + (1 : Int)))])) (T.leaf (Rd.out Ex.ret [D.b false])))))))) (T.leaf (Rd.out (Ex.exit 0) [])) := by kernel_rfl
theorem t27_9 (a b c : D) : roundT C tab27 27 (loopOf C.P 27 9) l27_9 [a, b, c] =
 T.need (decide ((0 : Int) ≤ b.I ∧ b.I < (a.L.length : Int))) (T.ite (decide (c.I < (↑(List.length (D.L (List.getD (List.getD a.L b.I.toNat []) (0 + 1 + 1 + 1) default))) : Int))) (T.need (decide ((0 : Int) ≤ b.I ∧ b.I < (a.L.length : Int))) (T.need (decide ((0 : Int) ≤ c.I ∧ c.I < (↑(List.length (D.L (List.getD (List.getD a.L b.I.toNat []) (0 + 1 + 1 + 1) default))) : Int))) (T.ite (!within (D.I (List.getD (List.getD (D.L (List.getD (List.getD a.L b.I.toNat []) (0 + 1 + 1 + 1) default)) c.I.toNat []) 0 default)) (0 : Int) (IntKind.i64.wrap (b.I - (1 : Int)))) (T.leaf (Rd.out Ex.ret [D.b false])) (T.ite (decide (c.I > (0 : Int))) (T.need (decide ((0 : Int) ≤ b.I ∧ b.I < (a.L.length : Int))) (T.need (decide ((0 : Int) ≤ c.I ∧ c.I < (↑(List.length (D.L (List.getD (List.getD a.L b.I.toNat []) (0 + 1 + 1 + 1) default))) : Int))) (T.need (decide ((0 : Int) ≤ b.I ∧ b.I < (a.L.length : Int))) (T.need (decide ((0 : Int) ≤ IntKind.i64.wrap (c.I - (1 : Int)) ∧ IntKind.i64.wrap (c.I - (1 : Int)) < (↑(List.length (D.L (List.getD (List.getD a.L b.I.toNat []) (0 + 1 + 1 + 1) default))) : Int))) (T.ite (decide (D.I (List.getD (List.getD (D.L (List.getD (List.getD a.L b.I.toNat []) (0 + 1 + 1 + 1) default)) c.I.toNat []) 0 default) ≤ D.I (List.getD (List.getD (D.L (List.getD (List.getD a.L b.I.toNat []) (0 + 1 + 1 + 1) default)) (Int.toNat (IntKind.i64.wrap (c.I - (1 : Int)))) []) 0 default))) (T.leaf (Rd.out Ex.ret [D.b false])) (T.leaf (Rd.again [D.l a.L, D.i b.I, D.i (IntKind.i64.wrap (c.I + (1 : Int)))]))))))) (T.leaf (Rd.again [D.l a.L, D.i b.I, D.i (IntKind.i64.wrap (c.I + (1 : Int)))])))))) (T.leaf (Rd.out (Ex.exit 2) [D.l a.L, D.i b.I]))) := by kernel_rfl
theorem t31 (a b c d e : D) : fnT C tab31 31 s31 [a, b, c, d, e] =
 T.need (yes (d.L.length < big)) (T.ite (!tankOk a.I b.I c.I d.L) (T.leaf [D.b false]) (T.ite ((e.L.length : Int) != (d.L.length : Int)) (T.leaf [D.b false]) (T.need (yes (e.L = e.L ∧ e.L.length = d.L.length ∧ d.L.length < big ∧ (e.L.length : Int) = (e.L.length : Int) ∧ (0 : Int) ≤ (0 : Int) ∧ (0 : Int) ≤ (e.L.length : Int))) (T.ite (allFrom (amOk d.L e.L) (Int.toNat (0 : Int)) (e.L.length - Int.toNat (0 : Int))) (T.need (yes (tankPre a.I b.I d.L e.L ∧ allFrom (amOk d.L e.L) 0 d.L.length = true ∧ bounds a.I c.I c.I)) (T.leaf [D.b (safeFrom a.I b.I d.L e.L 0 d.L.length c.I c.I)])) (T.leaf [D.b false]))))) := by kernel_rfl
theorem t31_4 (a b c d e f g h : D) : roundT C tab31 31 (loopOf C.P 31 4) l31_4 [a, b, c, d, e, f, g, h] =
 T.ite (decide (h.I < g.I)) (T.need (decide ((0 : Int) ≤ h.I ∧ h.I < (f.L.length : Int))) (T.need (decide ((0 : Int) ≤ h.I ∧ h.I < (d.L.length : Int))) (T.ite (!within (D.I (List.getD (List.getD f.L h.I.toNat []) 0 default)) (0 : Int) (D.I (List.getD (List.getD d.L h.I.toNat []) (0 + 1 + 1) default))) (T.leaf (Rd.out Ex.ret [D.b false])) (T.leaf (Rd.again [D.i a.I, D.i b.I, D.i c.I, D.l d.L, D.l e.L, D.l f.L, D.i g.I, D.i (IntKind.i64.wrap (h.I + (1 : Int)))]))))) (T.leaf (Rd.out (Ex.exit 0) [D.i a.I, D.i b.I, D.i c.I, D.l d.L, D.l e.L])) := by kernel_rfl
theorem t28 (a b : D) : fnT C tab28 28 s28 [a, b] =
 T.need (yes (needsOk a.L = true)) (T.ite (!jobsOk a.L) (T.leaf [D.l [], D.i 2]) (T.ite (!within b.I (0 : Int) (10000 : Int)) (T.leaf [D.l [], D.i 2]) (T.need true (T.need (yes (D.i (↑0 : Int) = D.i 0 ∧ jobsOk a.L = true ∧ IntKind.wrap IntKind.u64 ((1 : Int) * (2 : Int) ^ min (Int.toNat (a.L.length : Int)) (IntKind.bits IntKind.u64)) = (↑(2 ^ a.L.length) : Int) ∧ (0 : Int) ≤ (0 : Int) ∧ (0 : Int) ≤ IntKind.wrap IntKind.u64 ((1 : Int) * (2 : Int) ^ min (Int.toNat (a.L.length : Int)) (IntKind.bits IntKind.u64)))) (T.ite (Option.isSome (bestFrom a.L b.I (Int.toNat (0 : Int)) (2 ^ a.L.length - Int.toNat (0 : Int)) none)) (T.ite false (T.leaf [D.l [], D.i 5]) (T.need true (T.need true (T.need (yes ((0 : Int) ≤ D.I (List.getD (List.getD [Option.getD (bestFrom a.L b.I (Int.toNat (0 : Int)) (2 ^ a.L.length - Int.toNat (0 : Int)) none) []] (Int.toNat (0 : Int)) []) 0 default) ∧ D.I (List.getD (List.getD [Option.getD (bestFrom a.L b.I (Int.toNat (0 : Int)) (2 ^ a.L.length - Int.toNat (0 : Int)) none) []] (Int.toNat (0 : Int)) []) 0 default) < (1048576 : Int))) (T.ite (List.isEmpty (bitsL (Int.toNat (D.I (List.getD (List.getD [Option.getD (bestFrom a.L b.I (Int.toNat (0 : Int)) (2 ^ a.L.length - Int.toNat (0 : Int)) none) []] (Int.toNat (0 : Int)) []) 0 default))))) (T.leaf [D.l [], D.i 0]) (T.need (decide (Int.toNat (↑(List.length (bitsL (Int.toNat (D.I (List.getD (List.getD [Option.getD (bestFrom a.L b.I (Int.toNat (0 : Int)) (2 ^ a.L.length - Int.toNat (0 : Int)) none) []] (Int.toNat (0 : Int)) []) 0 default))))) : Int) ≤ List.length (mkI (bitsL (Int.toNat (D.I (List.getD (List.getD [Option.getD (bestFrom a.L b.I (Int.toNat (0 : Int)) (2 ^ a.L.length - Int.toNat (0 : Int)) none) []] (Int.toNat (0 : Int)) []) 0 default))))))) (T.leaf [D.l (List.take (Int.toNat (↑(List.length (bitsL (Int.toNat (D.I (List.getD (List.getD [Option.getD (bestFrom a.L b.I (Int.toNat (0 : Int)) (2 ^ a.L.length - Int.toNat (0 : Int)) none) []] (Int.toNat (0 : Int)) []) 0 default))))) : Int)) (mkI (bitsL (Int.toNat (D.I (List.getD (List.getD [Option.getD (bestFrom a.L b.I (Int.toNat (0 : Int)) (2 ^ a.L.length - Int.toNat (0 : Int)) none) []] (Int.toNat (0 : Int)) []) 0 default)))))), D.i 0]))))))) (T.ite true (T.leaf [D.l [], D.i 5]) T.fail)))))) := by kernel_rfl
theorem t28_6_0 (a b c d : D) : roundT C tab28 28 (loopOf C.P 28 6) l28_6 [.i 0, a, b, c, d] =
 T.ite (decide (d.I < c.I)) (T.need (yes (jobsOk a.L = true ∧ (0 : Int) ≤ d.I ∧ d.I < (1048576 : Int))) (T.ite (worthOk a.L b.I d.I.toNat) (T.need true (T.ite false (T.need (yes (1 ≤ List.length ([] : List (List D)) ∧ List.length ([] : List (List D)) ≤ 2 ∧ isSet (List.getD [] 0 []) ∧ isSet (List.getD [] 1 []))) (T.leaf (Rd.again [D.i 1, D.l a.L, D.i b.I, D.i 1, D.i c.I, D.i (IntKind.wrap IntKind.u64 (d.I + (1 : Int))), D.l [[D.i 0, D.i 0, D.i 0]]]))) (T.need true (T.need true (T.need (yes (1 ≤ List.length (List.take 1 (List.take (List.length [[D.i d.I, D.i (worthOf a.L d.I.toNat).fst, D.i (worthOf a.L d.I.toNat).snd.fst]]) [[D.i d.I, D.i (worthOf a.L d.I.toNat).fst, D.i (worthOf a.L d.I.toNat).snd.fst]])) ∧ List.length (List.take 1 (List.take (List.length [[D.i d.I, D.i (worthOf a.L d.I.toNat).fst, D.i (worthOf a.L d.I.toNat).snd.fst]]) [[D.i d.I, D.i (worthOf a.L d.I.toNat).fst, D.i (worthOf a.L d.I.toNat).snd.fst]])) ≤ 2 ∧ isSet (List.getD (List.take 1 (List.take (List.length [[D.i d.I, D.i (worthOf a.L d.I.toNat).fst, D.i (worthOf a.L d.I.toNat).snd.fst]]) [[D.i d.I, D.i (worthOf a.L d.I.toNat).fst, D.i (worthOf a.L d.I.toNat).snd.fst]])) 0 []) ∧ isSet (List.getD (List.take 1 (List.take (List.length [[D.i d.I, D.i (worthOf a.L d.I.toNat).fst, D.i (worthOf a.L d.I.toNat).snd.fst]]) [[D.i d.I, D.i (worthOf a.L d.I.toNat).fst, D.i (worthOf a.L d.I.toNat).snd.fst]])) 1 []))) (T.leaf (Rd.again [D.i 1, D.l a.L, D.i b.I, D.i 1, D.i c.I, D.i (IntKind.wrap IntKind.u64 (d.I + (1 : Int))), D.l [[D.i (ix (pickR (List.take 1 (List.take (List.length [[D.i d.I, D.i (worthOf a.L d.I.toNat).fst, D.i (worthOf a.L d.I.toNat).snd.fst]]) [[D.i d.I, D.i (worthOf a.L d.I.toNat).fst, D.i (worthOf a.L d.I.toNat).snd.fst]]))) 0), D.i (ix (pickR (List.take 1 (List.take (List.length [[D.i d.I, D.i (worthOf a.L d.I.toNat).fst, D.i (worthOf a.L d.I.toNat).snd.fst]]) [[D.i d.I, D.i (worthOf a.L d.I.toNat).fst, D.i (worthOf a.L d.I.toNat).snd.fst]]))) 1), D.i (ix (pickR (List.take 1 (List.take (List.length [[D.i d.I, D.i (worthOf a.L d.I.toNat).fst, D.i (worthOf a.L d.I.toNat).snd.fst]]) [[D.i d.I, D.i (worthOf a.L d.I.toNat).fst, D.i (worthOf a.L d.I.toNat).snd.fst]]))) 2)]]]))))))) (T.leaf (Rd.again [D.i 0, D.l a.L, D.i b.I, D.i c.I, D.i (IntKind.wrap IntKind.u64 (d.I + (1 : Int)))])))) (T.leaf (Rd.out (Ex.exit 0) [D.i 0])) := by kernel_rfl
theorem t28_6_1 (a b c d e f : D) : roundT C tab28 28 (loopOf C.P 28 6) l28_6 [.i 1, a, b, c, d, e, f] =
 T.ite (decide (e.I < d.I)) (T.need (yes (jobsOk a.L = true ∧ (0 : Int) ≤ e.I ∧ e.I < (1048576 : Int))) (T.ite (worthOk a.L b.I e.I.toNat) (T.need true (T.ite false (T.need (decide (c.I.toNat ≤ f.L.length)) (T.need (yes (1 ≤ List.length (List.take c.I.toNat f.L) ∧ List.length (List.take c.I.toNat f.L) ≤ 2 ∧ isSet (List.getD (List.take c.I.toNat f.L) 0 []) ∧ isSet (List.getD (List.take c.I.toNat f.L) 1 []))) (T.leaf (Rd.again [D.i 1, D.l a.L, D.i b.I, D.i 1, D.i d.I, D.i (IntKind.wrap IntKind.u64 (e.I + (1 : Int))), D.l [[D.i (ix (pickR (List.take c.I.toNat f.L)) 0), D.i (ix (pickR (List.take c.I.toNat f.L)) 1), D.i (ix (pickR (List.take c.I.toNat f.L)) 2)]]])))) (T.need (decide (c.I.toNat ≤ f.L.length ∧ c.I.toNat + 1 ≤ 2 ^ 62 ∧ (c.I.toNat + 1) * Try.prog.types[153].bytes ≤ 2 ^ 47)) (T.need (decide (c.I.toNat + 1 ≤ List.length (List.take c.I.toNat f.L ++ List.take (List.length [[D.i e.I, D.i (worthOf a.L e.I.toNat).fst, D.i (worthOf a.L e.I.toNat).snd.fst]]) [[D.i e.I, D.i (worthOf a.L e.I.toNat).fst, D.i (worthOf a.L e.I.toNat).snd.fst]]))) (T.need (yes (1 ≤ List.length (List.take (c.I.toNat + 1) (List.take c.I.toNat f.L ++ List.take (List.length [[D.i e.I, D.i (worthOf a.L e.I.toNat).fst, D.i (worthOf a.L e.I.toNat).snd.fst]]) [[D.i e.I, D.i (worthOf a.L e.I.toNat).fst, D.i (worthOf a.L e.I.toNat).snd.fst]])) ∧ List.length (List.take (c.I.toNat + 1) (List.take c.I.toNat f.L ++ List.take (List.length [[D.i e.I, D.i (worthOf a.L e.I.toNat).fst, D.i (worthOf a.L e.I.toNat).snd.fst]]) [[D.i e.I, D.i (worthOf a.L e.I.toNat).fst, D.i (worthOf a.L e.I.toNat).snd.fst]])) ≤ 2 ∧ isSet (List.getD (List.take (c.I.toNat + 1) (List.take c.I.toNat f.L ++ List.take (List.length [[D.i e.I, D.i (worthOf a.L e.I.toNat).fst, D.i (worthOf a.L e.I.toNat).snd.fst]]) [[D.i e.I, D.i (worthOf a.L e.I.toNat).fst, D.i (worthOf a.L e.I.toNat).snd.fst]])) 0 []) ∧ isSet (List.getD (List.take (c.I.toNat + 1) (List.take c.I.toNat f.L ++ List.take (List.length [[D.i e.I, D.i (worthOf a.L e.I.toNat).fst, D.i (worthOf a.L e.I.toNat).snd.fst]]) [[D.i e.I, D.i (worthOf a.L e.I.toNat).fst, D.i (worthOf a.L e.I.toNat).snd.fst]])) 1 []))) (T.leaf (Rd.again [D.i 1, D.l a.L, D.i b.I, D.i 1, D.i d.I, D.i (IntKind.wrap IntKind.u64 (e.I + (1 : Int))), D.l [[D.i (ix (pickR (List.take (c.I.toNat + 1) (List.take c.I.toNat f.L ++ List.take (List.length [[D.i e.I, D.i (worthOf a.L e.I.toNat).fst, D.i (worthOf a.L e.I.toNat).snd.fst]]) [[D.i e.I, D.i (worthOf a.L e.I.toNat).fst, D.i (worthOf a.L e.I.toNat).snd.fst]]))) 0), D.i (ix (pickR (List.take (c.I.toNat + 1) (List.take c.I.toNat f.L ++ List.take (List.length [[D.i e.I, D.i (worthOf a.L e.I.toNat).fst, D.i (worthOf a.L e.I.toNat).snd.fst]]) [[D.i e.I, D.i (worthOf a.L e.I.toNat).fst, D.i (worthOf a.L e.I.toNat).snd.fst]]))) 1), D.i (ix (pickR (List.take (c.I.toNat + 1) (List.take c.I.toNat f.L ++ List.take (List.length [[D.i e.I, D.i (worthOf a.L e.I.toNat).fst, D.i (worthOf a.L e.I.toNat).snd.fst]]) [[D.i e.I, D.i (worthOf a.L e.I.toNat).fst, D.i (worthOf a.L e.I.toNat).snd.fst]]))) 2)]]]))))))) (T.leaf (Rd.again [D.i 1, D.l a.L, D.i b.I, D.i (c.I.toNat : Int), D.i d.I, D.i (IntKind.wrap IntKind.u64 (e.I + (1 : Int))), D.l f.L])))) (T.leaf (Rd.out (Ex.exit 0) [D.i 1, D.i (c.I.toNat : Int), D.l f.L])) := by kernel_rfl
theorem t29 (a b c : D) : fnT C tab29 29 s29 [a, b, c] =
 T.need (yes (needsOk a.L = true)) (T.ite (!jobsOk a.L) (T.leaf [D.i 0, D.i 0, D.i 2]) (T.ite (!within b.I (0 : Int) (10000 : Int)) (T.leaf [D.i 0, D.i 0, D.i 2]) (T.need (yes (jobsOk a.L = true ∧ c.L = c.L ∧ (c.L.length : Int) = (c.L.length : Int) ∧ c.L.length ≤ 20 ∧ allFrom (choAt a.L c.L) 0 c.L.length = true ∧ (0 : Int) ≤ (0 : Int) ∧ (0 : Int) ≤ (c.L.length : Int) ∧ (0 : Int) = (↑(setTo c.L (Int.toNat (0 : Int))) : Int))) (T.need (yes (jobsOk a.L = true ∧ (0 : Int) ≤ (↑(setTo c.L c.L.length) : Int) ∧ (↑(setTo c.L c.L.length) : Int) < (1048576 : Int))) (T.ite (!worthOk a.L b.I (Int.toNat (↑(setTo c.L c.L.length) : Int))) (T.leaf [D.i 0, D.i 0, D.i 2]) (T.leaf [D.i (worthOf a.L (Int.toNat (↑(setTo c.L c.L.length) : Int))).fst, D.i (worthOf a.L (Int.toNat (↑(setTo c.L c.L.length) : Int))).snd.fst, D.i 0])))))) := by kernel_rfl
theorem t29_5 (a b c d e f g : D) : roundT C tab29 29 (loopOf C.P 29 5) l29_5 [a, b, c, d, e, f, g] =
 T.ite (decide (g.I < f.I)) (T.need (decide ((0 : Int) ≤ g.I ∧ g.I < (e.L.length : Int))) (T.ite (!within (D.I (List.getD (List.getD e.L g.I.toNat []) 0 default)) (0 : Int) (IntKind.i64.wrap ((a.L.length : Int) - (1 : Int)))) (T.leaf (Rd.out Ex.ret [D.i 0, D.i 0, D.i 2])) (T.ite (decide (g.I > (0 : Int))) (T.need (decide ((0 : Int) ≤ IntKind.i64.wrap (g.I - (1 : Int)) ∧ IntKind.i64.wrap (g.I - (1 : Int)) < (c.L.length : Int))) (T.ite (decide (D.I (List.getD (List.getD e.L g.I.toNat []) 0 default) ≤ D.I (List.getD (List.getD c.L (Int.toNat (IntKind.i64.wrap (g.I - (1 : Int)))) []) 0 default))) (T.leaf (Rd.out Ex.ret [D.i 0, D.i 0, D.i 2])) (T.need (!decide (D.I (List.getD (List.getD e.L g.I.toNat []) 0 default) < (0 : Int))) (T.leaf (Rd.again [D.l a.L, D.i b.I, D.l c.L, D.i (IntKind.wrap IntKind.u64 (↑(BitVec.toNat (BitVec.ofInt (IntKind.bits IntKind.u64) d.I ||| BitVec.ofInt (IntKind.bits IntKind.u64) (IntKind.wrap IntKind.u64 ((1 : Int) * (2 : Int) ^ min (Int.toNat (D.I (List.getD (List.getD e.L g.I.toNat []) 0 default))) (IntKind.bits IntKind.u64))))) : Int)), D.l e.L, D.i f.I, D.i (IntKind.i64.wrap (g.I + (1 : Int)))]))))) (T.need (!decide (D.I (List.getD (List.getD e.L g.I.toNat []) 0 default) < (0 : Int))) (T.leaf (Rd.again [D.l a.L, D.i b.I, D.l c.L, D.i (IntKind.wrap IntKind.u64 (↑(BitVec.toNat (BitVec.ofInt (IntKind.bits IntKind.u64) d.I ||| BitVec.ofInt (IntKind.bits IntKind.u64) (IntKind.wrap IntKind.u64 ((1 : Int) * (2 : Int) ^ min (Int.toNat (D.I (List.getD (List.getD e.L g.I.toNat []) 0 default))) (IntKind.bits IntKind.u64))))) : Int)), D.l e.L, D.i f.I, D.i (IntKind.i64.wrap (g.I + (1 : Int)))])))))) (T.leaf (Rd.out (Ex.exit 0) [D.l a.L, D.i b.I, D.i d.I])) := by kernel_rfl
theorem t24 (a b c : D) : fnT C tab24 24 s24 [a, b, c] =
 T.ite (decide ((c.L.length : Int) > (6 : Int))) (T.leaf [D.b false]) (T.need (yes ((0 : Int) ≤ (0 : Int) ∧ (0 : Int) ≤ (c.L.length : Int) ∧ c.L.length ≤ 6)) (T.ite (allFrom (winS c.L) (Int.toNat (0 : Int)) (c.L.length - Int.toNat (0 : Int))) (T.leaf [D.b (planB a.I b.I c.L)]) (T.leaf [D.b false]))) := by kernel_rfl
theorem t24_4 (a b c d : D) : roundT C tab24 24 (loopOf C.P 24 4) l24_4 [a, b, c, d] =
 T.ite (decide (a.I < (d.L.length : Int))) (T.need (decide ((0 : Int) ≤ a.I ∧ a.I < (d.L.length : Int))) (T.ite (decide ((↑(List.length (D.L (List.getD (List.getD d.L a.I.toNat []) (0 + 1 + 1 + 1 + 1 + 1 + 1 + 1) default))) : Int) > (3 : Int))) (T.leaf (Rd.out Ex.ret [D.b false])) (T.leaf (Rd.again [D.i (IntKind.i64.wrap (a.I + (1 : Int))), D.i b.I, D.i c.I, D.l d.L])))) (T.leaf (Rd.out (Ex.exit 0) [D.i b.I, D.i c.I, D.l d.L])) := by kernel_rfl
theorem ne_of_bne {x y : Int} (h : (x != y) = true) : x ≠ y := by simpa using h
theorem eq_of_bne {x y : Int} (h : (x != y) = false) : x = y := by simpa using h
theorem wrap_u64 {x : Int} (h1 : 0 ≤ x) (h2 : x < 18446744073709551616) : IntKind.wrap .u64 x = x := by
 unfold IntKind.wrap
 simp [IntKind.signed, IntKind.bits]
 omega
theorem fdiv_pow (s i : Nat) : Int.fdiv (s : Int) (2 ^ i) = ((s / 2 ^ i : Nat) : Int) := by
 rw [Int.fdiv_eq_ediv_of_nonneg _ (Int.pow_nonneg (by omega))]
 simp
theorem and_one (x : Nat) : (BitVec.toNat (BitVec.ofInt 64 (x : Int) &&& BitVec.ofInt 64 1)) = x % 2 := by
 rw [BitVec.toNat_and, BitVec.ofInt_natCast, BitVec.toNat_ofNat]
 have : BitVec.toNat (BitVec.ofInt 64 1) = 1 := by decide
 rw [this, Nat.and_one_is_mod]
 omega
theorem bit_eq (s i : Nat) (hi : i ≤ 60) : IntKind.wrap IntKind.u64 ((BitVec.toNat (BitVec.ofInt (IntKind.bits IntKind.u64) (Int.fdiv (s : Int) (2 ^ min i (IntKind.bits IntKind.u64))) &&& BitVec.ofInt (IntKind.bits IntKind.u64) 1) : Nat) : Int) = if s.testBit i then 1 else 0 := by
 have e : IntKind.bits IntKind.u64 = 64 := rfl
 rw [e, Nat.min_eq_left (by omega), fdiv_pow, and_one]
 rw [Nat.testBit_eq_decide_div_mod_eq]
 by_cases h : s / 2 ^ i % 2 = 1
 ·rw [h, decide_eq_true rfl]; decide
 ·have : s / 2 ^ i % 2 = 0 := by omega
  rw [this]; decide
theorem bit_one (s i : Nat) (hi : i ≤ 60) : (IntKind.wrap IntKind.u64 ((BitVec.toNat (BitVec.ofInt (IntKind.bits IntKind.u64) (Int.fdiv (s : Int) (2 ^ min i (IntKind.bits IntKind.u64))) &&& BitVec.ofInt (IntKind.bits IntKind.u64) 1) : Nat) : Int) == 1) = s.testBit i := by
 rw [bit_eq s i hi]; cases s.testBit i <;> rfl
theorem bit_zero (s i : Nat) (hi : i ≤ 60) : (IntKind.wrap IntKind.u64 ((BitVec.toNat (BitVec.ofInt (IntKind.bits IntKind.u64) (Int.fdiv (s : Int) (2 ^ min i (IntKind.bits IntKind.u64))) &&& BitVec.ofInt (IntKind.bits IntKind.u64) 1) : Nat) : Int) == 0) = !s.testBit i := by
 rw [bit_eq s i hi]; cases s.testBit i <;> rfl
theorem rest_ne (s i : Nat) (hi : i ≤ 60) : (Int.fdiv (s : Int) (2 ^ min i (IntKind.bits IntKind.u64)) != 0) = decide (2 ^ i ≤ s) := by
 have e : IntKind.bits IntKind.u64 = 64 := rfl
 rw [e, Nat.min_eq_left (by omega), fdiv_pow]
 have hp : 0 < 2 ^ i := Nat.two_pow_pos i
 by_cases h : 2 ^ i ≤ s
 ·have : 0 < s / 2 ^ i := Nat.div_pos h hp
  rw [decide_eq_true h]
  exact bne_iff_ne.2 (by omega)
 ·have : s / 2 ^ i = 0 := Nat.div_eq_of_lt (by omega)
  rw [decide_eq_false h, this]; rfl
theorem no_bits {s i : Nat} (h : ¬ 2 ^ i ≤ s) : ∀ k j, i ≤ j → bitsFrom s j k = []
 | 0, _, _ => rfl
 | k + 1, j, hj => by
   have : s.testBit j = false := Nat.testBit_lt_two_pow (Nat.lt_of_lt_of_le (by omega) (Nat.pow_le_pow_right (by omega) hj))
   simp only [bitsFrom, this, Bool.false_eq_true, if_false]
   exact no_bits h k (j + 1) (by omega)
theorem ok73_7 (n : Nat) : LoopSim C (n + 1) 73 (loopOf C.P 73 7) (mkL l73_7 G73_7) := by
 refine loop_of hC (sp := sp73) (lp := lp73) ⟨ok64 n, trivial⟩ [] (by kernel_rfl) rfl (fun k hk => by cases hk) (by kernel_rfl) (fun ds => ((ds.getD 6 default).I - (ds.getD 7 default).I).toNat) fun ds rr h => ?_
 unfold G73_7 at h
 split at h
 ·rename_i l i l' m i' ns q k a b c d
  obtain ⟨hp, h⟩ := need_some h
  rw [yes_iff] at hp
  obtain ⟨h1, h2, h3, h4, h5, h6, h7⟩ := hp
  refine ⟨by rw [fuelC]; simp; omega, ?_⟩
  rw [show roundT C (mkTab sp73 lp73) 73 (loopOf C.P 73 7) l73_7 [l, i, l', m, i', ns, q, k, a, b, c, d] = _ from t73_7 l i l' m i' ns q k a b c d]
  obtain ⟨x, hx⟩ : ∃ x : Nat, k.I = x := ⟨k.I.toNat, by omega⟩
  have w0 : IntKind.i64.wrap (i.I - 1) = i.I - 1 := wrap_id (by omega) (by omega)
  simp only [hx, h1, h2, w0, Int.toNat_natCast, ix_def] at h h7 ⊢
  refine rd_if (fun hlt => ?_) fun hge => rd_out (all_end h (by omega))
  have hkl : x < ns.L.length := by omega
  obtain ⟨s1, s2⟩ := all_step h hkl
  have hμ : ((ns.L.length : Int) - ((x + 1 : Nat) : Int)).toNat < (q.I - k.I).toNat := by omega
  rw [wrap_succ (by omega)]
  have again := fun hh => rd_again (μ := fun ds => ((ds.getD 6 default).I - (ds.getD 7 default).I).toNat) (ds := [l, i, l', m, i', ns, q, k, a, b, c, d]) (G := G73_7) (r := rr) (ds' := [.l l.L, .i i.I, .l l'.L, .i m.I, .i i'.I, .l ns.L, .i ns.L.length, .i (x + 1 : Nat), .i a.I, .i b.I, .b c.B, .l ns.L]) ((need_yes ⟨rfl, rfl, h3, h4, h5, by simp only [I_i]; omega, by simp only [I_i]; omega⟩).trans (s2 hh)) hμ
  refine rd_dec ⟨by omega, by omega⟩ (rd_not (fun c1 => rd_out (s1 ?_)) fun c1 => rd_if (fun c2 => ?_) fun c2 => ?_)
  ·unfold needJ; rw [c1, Bool.false_and]
  ·have w1 : IntKind.i64.wrap ((x : Int) - 1) = (x : Int) - 1 := wrap_id (by omega) (by omega)
   rw [w1, show ((x : Int) - 1).toNat = x - 1 by omega]
   refine rd_dec ⟨by omega, by omega⟩ (rd_if (fun c3 => rd_out (s1 ?_)) fun c3 => again ?_)
   ·unfold needJ
    rw [decide_eq_false (show ¬ x = 0 by omega), decide_eq_false (show ¬ ix (ns.L.getD (x - 1) []) 0 < ix (ns.L.getD x []) 0 by omega)]
    simp
   ·unfold needJ
    rw [c1, decide_eq_true (show ix (ns.L.getD (x - 1) []) 0 < ix (ns.L.getD x []) 0 by omega)]
    simp
  ·refine again ?_
   unfold needJ
   rw [c1, decide_eq_true (show x = 0 by omega)]
   simp
 ·cases h
theorem ok73_2 (n : Nat) : LoopSim C (n + 1) 73 (loopOf C.P 73 2) (mkL l73_2 G73_2) := by
 refine loop_of hC (sp := sp73) (lp := lp73) ⟨ok64 n, trivial⟩ [7] (by kernel_rfl) (by kernel_rfl) (fun k hk L hL => by simp at hk; subst hk; cases hL; exact ok73_7 n) (by kernel_rfl) (fun ds => ((ds.getD 2 default).I - (ds.getD 3 default).I).toNat) fun ds rr h => ?_
 unfold G73_2 at h
 split at h
 ·rename_i l l' m i
  obtain ⟨hp, h⟩ := need_some h
  rw [yes_iff] at hp
  obtain ⟨h1, h2, h3, h4, h5⟩ := hp
  have hn := h1
  simp only [needsOk, Bool.and_eq_true, decide_eq_true_eq, allFrom_iff, fewNeeds] at hn
  refine ⟨by rw [fuelC]; simp; omega, ?_⟩
  rw [show roundT C (mkTab sp73 lp73) 73 (loopOf C.P 73 2) l73_2 [l, l', m, i] = _ from t73_2 l l' m i]
  obtain ⟨x, hx⟩ : ∃ x : Nat, i.I = x := ⟨i.I.toNat, by omega⟩
  simp only [hx, h2, h3, Int.toNat_natCast, ix_def, lx_def, Nat.zero_add, Nat.reduceAdd, Int.toNat_zero, Nat.sub_zero] at h h5 ⊢
  refine rd_if (fun hlt => ?_) fun hge => rd_out (all_end h (by omega))
  have hkl : x < l.L.length := by omega
  obtain ⟨s1, s2⟩ := all_step h hkl
  have hns := hn.1 x (Nat.zero_le _) (by omega)
  refine rd_dec ⟨by omega, by omega⟩ (rd_not (fun c1 => rd_out (s1 ?_)) fun c1 => rd_not (fun c2 => rd_out (s1 ?_)) fun c2 => rd_yes ⟨by trivial, by trivial, hns, by omega, by omega, by omega, by omega⟩ (rd_ite (fun c3 => ?_) fun c3 => rd_out (s1 ?_)))
  ·unfold jobAt jobP; rw [c1]; simp
  ·unfold jobAt jobP; rw [c2]; simp
  ·rw [wrap_succ (by omega)]
   exact rd_again ((need_yes ⟨h1, rfl, rfl, by simp only [I_i]; omega, by simp only [I_i]; omega⟩).trans (s2 (by unfold jobAt jobP; rw [c1, c2, c3]; rfl))) (show ((l.L.length : Int) - ((x + 1 : Nat) : Int)).toNat < (m.I - i.I).toNat by omega)
  ·unfold jobAt; rw [c3]; simp
 ·cases h
theorem ok73 (n : Nat) : FnOK C (n + 2) 73 (mkF s73 G73) := by
 refine fn_of hC (sp := sp73) (lp := lp73) ⟨ok64 n, trivial⟩ (by kernel_rfl) [2] (by kernel_rfl) (by kernel_rfl) (fun k hk L hL => by simp at hk; subst hk; cases hL; exact ok73_2 n) fun ds rr h => ?_
 unfold G73 at h
 split at h
 ·rename_i l
  obtain ⟨hp, h⟩ := need_some h
  rw [yes_iff] at hp
  refine (congrArg T.run (t73 l)).trans ?_
  rw [← h]
  simp only [Int.toNat_zero, Nat.sub_zero]
  unfold jobsOk
  refine go_yes ⟨hp, by trivial, by trivial, by omega, by omega⟩ (go_ite (fun c => ?_) fun c => by simp [c])
  by_cases h30 : l.L.length ≤ 20
  ·have : (l.L.length : Int) ≤ 20 := by omega
   simp [c, h30, this]
  ·have : ¬ (l.L.length : Int) ≤ 20 := by omega
   simp [h30, this]
 ·cases h
theorem ok139 (n : Nat) : FnOK C (n + 1) 139 (mkF s139 G139) := by
 refine fn_of hC (sp := sp139) (lp := lp139) trivial (by kernel_rfl) [] (by kernel_rfl) rfl (fun k hk => by cases hk) fun ds rr h => ?_
 unfold G139 at h
 split at h
 ·rename_i x
  refine (congrArg T.run (t139 x)).trans ?_
  rw [← h]
  simp
 ·cases h
theorem ok116 (n : Nat) : FnOK C (n + 2) 116 (mkF s116 G116) := by
 refine fn_of hC (sp := sp116) (lp := lp116) ⟨ok139 n, trivial⟩ (by kernel_rfl) [] (by kernel_rfl) rfl (fun k hk => by cases hk) fun ds rr h => ?_
 unfold G116 at h
 split at h
 ·rename_i x y
  refine (congrArg T.run (t116 x y)).trans ?_
  rw [← h]
  unfold cmpI
  refine go_false rfl (go_false rfl (go_if (fun c => by simp [c]) fun c => go_if (fun c2 => ?_) fun c2 => ?_))
  ·rw [if_neg c, if_pos c2]
  ·rw [if_neg c, if_neg c2]
 ·cases h
theorem ok75_2 (n : Nat) : LoopSim C (n + 2) 75 (loopOf C.P 75 2) (mkL l75_2 G75_2) := by
 refine loop_of hC (sp := sp75) (lp := lp75) ⟨ok116 n, trivial⟩ [] (by kernel_rfl) rfl (fun k hk => by cases hk) (by kernel_rfl) (fun ds => ((ds.getD 3 default).I - (ds.getD 4 default).I).toNat) fun ds rr h => ?_
 unfold G75_2 at h
 split at h
 ·rename_i a b a' m i
  obtain ⟨hp, h⟩ := need_some h
  rw [yes_iff] at hp
  obtain ⟨h1, h2, h3, h4, h5, h6⟩ := hp
  have hb : big = 4611686018427387904 := rfl
  refine ⟨by rw [fuelC]; simp; omega, ?_⟩
  rw [show roundT C (mkTab sp75 lp75) 75 (loopOf C.P 75 2) l75_2 [a, b, a', m, i] = _ from t75_2 a b a' m i]
  obtain ⟨x, hx⟩ : ∃ x : Nat, i.I = x := ⟨i.I.toNat, by omega⟩
  simp only [hx, h3, h4, Int.toNat_natCast, ix_def] at h h6 ⊢
  refine rd_if (fun hlt => ?_) fun hge => ?_
  ·have hkl : x < a.L.length := by omega
   rw [show a.L.length - x = (a.L.length - (x + 1)) + 1 by omega] at h
   refine rd_dec ⟨by omega, by omega⟩ (rd_if (fun c => ?_) fun c => rd_dec ⟨by omega, by omega⟩ (rd_ite (fun c2 => ?_) fun c2 => ?_))
   ·have e : cmpFrom a.L b.L x ((a.L.length - (x + 1)) + 1) = 1 := by simp only [cmpFrom]; rw [if_pos (show b.L.length ≤ x by omega)]
    rw [e] at h
    exact rd_out h
   ·have c2' := ne_of_bne c2
    have e : cmpFrom a.L b.L x ((a.L.length - (x + 1)) + 1) = cmpI (ix (a.L.getD x []) 0) (ix (b.L.getD x []) 0) := by simp only [cmpFrom]; rw [if_neg (show ¬ b.L.length ≤ x by omega), if_pos c2']
    rw [e, run_ite, if_neg (fun hh => c2' (of_decide_eq_true hh))] at h
    exact rd_out h
   ·have c2' := eq_of_bne c2
    have e : cmpFrom a.L b.L x ((a.L.length - (x + 1)) + 1) = cmpFrom a.L b.L (x + 1) (a.L.length - (x + 1)) := by simp only [cmpFrom]; rw [if_neg (show ¬ b.L.length ≤ x by omega), if_neg (fun hh => hh c2')]
    rw [e] at h
    rw [wrap_succ (by omega)]
    exact rd_again ((need_yes ⟨h1, h2, rfl, rfl, by simp only [I_i]; omega, by simp only [I_i]; omega⟩).trans h) (show ((a.L.length : Int) - ((x + 1 : Nat) : Int)).toNat < (m.I - i.I).toNat by omega)
  ·rw [show a.L.length - x = 0 by omega] at h
   exact rd_out h
 ·cases h
theorem ok75 (n : Nat) : FnOK C (n + 3) 75 (mkF s75 G75) := by
 refine fn_of hC (sp := sp75) (lp := lp75) ⟨ok116 n, trivial⟩ (by kernel_rfl) [2] (by kernel_rfl) (by kernel_rfl) (fun k hk L hL => by simp at hk; subst hk; cases hL; exact ok75_2 n) fun ds rr h => ?_
 unfold G75 at h
 split at h
 ·rename_i a b
  obtain ⟨hp, h⟩ := need_some h
  rw [yes_iff] at hp
  refine (congrArg T.run (t75 a b)).trans ?_
  rw [← h]
  simp only [Int.toNat_zero, Nat.sub_zero]
  unfold cmpL
  refine go_yes ⟨hp.1, hp.2, by trivial, by trivial, by omega, by omega⟩ (go_if (fun c => go_if (fun c2 => ?_) fun c2 => ?_) fun c => ?_)
  ·rw [if_neg (fun hh => hh c), if_pos (show a.L.length < b.L.length by omega)]
  ·rw [if_neg (fun hh => hh c), if_neg (show ¬ a.L.length < b.L.length by omega)]
  ·rw [if_pos c]
 ·cases h
theorem len_mkI (l : List Int) : (mkI l).length = l.length := by simp [mkI]
theorem bits_len {s : Nat} : ∀ k i, (bitsFrom s i k).length ≤ k
 | 0, _ => Nat.le_refl _
 | k + 1, i => by
   have := bits_len (s := s) k (i + 1)
   simp only [bitsFrom]
   split
   ·simp only [List.length_cons]; omega
   ·omega
set_option maxRecDepth 100000 in
theorem bytes3' : Try.prog.types[3].bytes = 8 := by have := bytes3; omega
set_option maxRecDepth 100000 in
theorem ok76_3 (n : Nat) : LoopSim C n 76 (loopOf C.P 76 3) (mkL l76_3 G76_3) := by
 refine loop_of hC (sp := sp76) (lp := lp76) trivial [] (by kernel_rfl) rfl (fun k hk => by cases hk) (by kernel_rfl) (fun ds => if ds.length = 3 then (21 - (ds.getD 2 default).I).toNat else (21 - (ds.getD 3 default).I).toNat) fun ds rr h => ?_
 unfold G76_3 at h
 split at h
 ·rename_i j s i
  obtain ⟨hp, h'⟩ := need_some h
  clear h
  rw [yes_iff] at hp
  obtain ⟨rfl, h1, h2, h3, h4⟩ := hp
  have h := h'
  clear h'
  refine ⟨by rw [fuelC]; simp; omega, ?_⟩
  rw [show roundT C (mkTab sp76 lp76) 76 (loopOf C.P 76 3) l76_3 [.i 0, s, i] = _ from t76_3_0 s i]
  obtain ⟨x, hx⟩ : ∃ x : Nat, i.I = x := ⟨i.I.toNat, by omega⟩
  obtain ⟨y, hy⟩ : ∃ y : Nat, s.I = y := ⟨s.I.toNat, by omega⟩
  simp only [hx, hy, Int.toNat_natCast, rest_ne y x (by omega), bit_one y x (by omega)] at h h2 h4 ⊢
  have hμ : (21 - ((x + 1 : Nat) : Int)).toNat < (21 - i.I).toNat := by omega
  refine rd_need (by simp) (rd_if (fun c => ?_) fun c => ?_)
  ·have hx20 : x < 20 := Classical.byContradiction fun hh => by
    have : 2 ^ 20 ≤ 2 ^ x := Nat.pow_le_pow_right (by omega) (by omega)
    omega
   rw [show 20 - x = (20 - (x + 1)) + 1 by omega] at h
   simp only [bitsFrom] at h
   rw [wrap_succ (by omega)]
   refine rd_need (by simp) (rd_ite (fun b => ?_) fun b => ?_)
   ·simp only [b, if_true, List.isEmpty_cons] at h
    refine rd_need rfl (rd_false rfl (rd_need rfl (rd_again ?_ hμ)))
    refine (need_yes ⟨rfl, by simp only [I_i]; omega, by simp only [I_i]; omega, by simp only [I_i]; omega, by simp only [I_i]; omega, rfl, by simp only [L_l, I_i, List.length_singleton]; omega⟩).trans ?_
    simp only [I_i, L_l, Int.toNat_natCast, List.length_singleton]
    rw [Nat.add_comm]
    exact h
   ·simp only [b, Bool.false_eq_true, if_false] at h
    refine rd_again ?_ hμ
    refine (need_yes ⟨rfl, by simp only [I_i]; omega, by simp only [I_i]; omega, by simp only [I_i]; omega, by simp only [I_i]; omega⟩).trans ?_
    simp only [I_i, Int.toNat_natCast]
    exact h
  ·rw [no_bits c _ x (Nat.le_refl _)] at h
   exact rd_out h
 ·rename_i j s m i row
  obtain ⟨hp, h'⟩ := need_some h
  clear h
  rw [yes_iff] at hp
  obtain ⟨rfl, h1, h2, h3, h4, h5, h6⟩ := hp
  have h := h'
  clear h'
  refine ⟨by rw [fuelC]; simp; omega, ?_⟩
  rw [show roundT C (mkTab sp76 lp76) 76 (loopOf C.P 76 3) l76_3 [.i 1, s, m, i, row] = _ from t76_3_1 s m i row]
  obtain ⟨x, hx⟩ : ∃ x : Nat, i.I = x := ⟨i.I.toNat, by omega⟩
  obtain ⟨y, hy⟩ : ∃ y : Nat, s.I = y := ⟨s.I.toNat, by omega⟩
  have e1 : ∀ c : List D, List.take 1 [c] = [c] := fun _ => rfl
  have e2 : List.take row.L.length row.L = row.L := List.take_length
  simp only [hx, hy, h5, Int.toNat_natCast, rest_ne y x (by omega), bit_one y x (by omega), e1, e2, List.length_singleton] at h h2 h4 ⊢
  have hμ : (21 - ((x + 1 : Nat) : Int)).toNat < (21 - i.I).toNat := by omega
  refine rd_need (by simp) (rd_if (fun c => ?_) fun c => ?_)
  ·have hx20 : x < 20 := Classical.byContradiction fun hh => by
    have : 2 ^ 20 ≤ 2 ^ x := Nat.pow_le_pow_right (by omega) (by omega)
    omega
   rw [show 20 - x = (20 - (x + 1)) + 1 by omega] at h
   simp only [bitsFrom] at h
   rw [wrap_succ (by omega)]
   refine rd_need (by simp) (rd_ite (fun b => ?_) fun b => ?_)
   ·simp only [b, if_true] at h
    refine rd_need rfl (rd_false rfl (rd_dec ⟨by omega, by omega, by rw [bytes3']; omega⟩ (rd_again ?_ hμ)))
    refine (need_yes ⟨rfl, by simp only [I_i]; omega, by simp only [I_i]; omega, by simp only [I_i]; omega, by simp only [I_i]; omega, by simp [D.L, D.I], by simp only [L_l, I_i, List.length_append, List.length_singleton]; omega⟩).trans ?_
    simp only [I_i, L_l, Int.toNat_natCast, List.length_append, List.length_singleton, List.append_assoc]
    have : (row.L.length + 1 + (bitsFrom y (x + 1) (20 - (x + 1))).length) = (row.L.length + ((x : Int) :: bitsFrom y (x + 1) (20 - (x + 1))).length) := by simp only [List.length_cons]; omega
    rw [this]
    exact h
   ·simp only [b, Bool.false_eq_true, if_false] at h
    refine rd_again ?_ hμ
    refine (need_yes ⟨rfl, by simp only [I_i]; omega, by simp only [I_i]; omega, by simp only [I_i]; omega, by simp only [I_i]; omega, rfl, by simp only [L_l, I_i]; omega⟩).trans ?_
    simp only [I_i, L_l, Int.toNat_natCast]
    exact h
  ·rw [no_bits c _ x (Nat.le_refl _)] at h
   simp only [List.length_nil, Nat.add_zero, mkI, List.map_nil, List.append_nil] at h
   exact rd_out h
 ·cases h
theorem ok76 (n : Nat) : FnOK C (n + 1) 76 (mkF s76 G76) := by
 refine fn_of hC (sp := sp76) (lp := lp76) trivial (by kernel_rfl) [3] (by kernel_rfl) (by kernel_rfl) (fun k hk L hL => by simp at hk; subst hk; cases hL; exact ok76_3 n) fun ds rr h => ?_
 unfold G76 at h
 split at h
 ·rename_i s
  obtain ⟨hp, h⟩ := need_some h
  rw [yes_iff] at hp
  refine (congrArg T.run (t76 s)).trans ?_
  simp only [Int.toNat_zero, Nat.sub_zero, Int.toNat_natCast]
  exact go_yes ⟨by trivial, hp.1, hp.2, by omega, by omega⟩ h
 ·cases h
theorem jobs_of {l : List (List D)} (h : jobsOk l = true) : l.length ≤ 20 ∧ ∀ i, i < l.length → ((0 ≤ ix (l.getD i []) 0 ∧ ix (l.getD i []) 0 ≤ 1000) ∧ (0 ≤ ix (l.getD i []) 1 ∧ ix (l.getD i []) 1 ≤ 1000000)) ∧ (lx (l.getD i []) 3).length ≤ 20 ∧
    ∀ k, k < (lx (l.getD i []) 3).length → 0 ≤ ix ((lx (l.getD i []) 3).getD k []) 0 ∧ ix ((lx (l.getD i []) 3).getD k []) 0 ≤ (i : Int) - 1 ∧ (k = 0 ∨ ix ((lx (l.getD i []) 3).getD (k - 1) []) 0 < ix ((lx (l.getD i []) 3).getD k []) 0) := by
 simp only [jobsOk, Bool.and_eq_true, decide_eq_true_eq, allFrom_iff] at h
 refine ⟨h.2, fun i hi => ?_⟩
 have h1 := h.1 i (Nat.zero_le _) (by omega)
 simp only [jobAt, jobP, Bool.and_eq_true, Lite.within_iff, allFrom_iff, needJ, Bool.or_eq_true, decide_eq_true_eq] at h1
 have h2 : ∀ k, k < (lx (l.getD i []) 3).length → 0 ≤ ix ((lx (l.getD i []) 3).getD k []) 0 ∧ ix ((lx (l.getD i []) 3).getD k []) 0 ≤ (i : Int) - 1 ∧ (k = 0 ∨ ix ((lx (l.getD i []) 3).getD (k - 1) []) 0 < ix ((lx (l.getD i []) 3).getD k []) 0) := fun k hk => by
  have := h1.2 k (Nat.zero_le _) (by omega)
  exact ⟨this.1.1, this.1.2, this.2⟩
 have h3 : ∀ k, k < (lx (l.getD i []) 3).length → (k : Int) ≤ ix ((lx (l.getD i []) 3).getD k []) 0 := by
  intro k
  induction k with
  | zero => intro hk; exact (h2 0 hk).1
  | succ k ih =>
    intro hk
    have := ih (by omega)
    rcases (h2 (k + 1) hk).2.2 with e | e
    ·omega
    ·simp only [Nat.add_sub_cancel] at e; omega
 refine ⟨h1.1, ?_, h2⟩
 have hlen : (lx (l.getD i []) 3).length = 0 ∨ 0 < (lx (l.getD i []) 3).length := by omega
 rcases hlen with e | e
 ·omega
 ·have a := h3 ((lx (l.getD i []) 3).length - 1) (by omega)
  have b := (h2 ((lx (l.getD i []) 3).length - 1) (by omega)).2.1
  omega
theorem ok77_9 (n : Nat) : LoopSim C n 77 (loopOf C.P 77 9) (mkL l77_9 G77_9) := by
 refine loop_of hC (sp := sp77) (lp := lp77) trivial [] (by kernel_rfl) rfl (fun k hk => by cases hk) (by kernel_rfl) (fun ds => ((ds.getD 8 default).I - (ds.getD 9 default).I).toNat) fun ds rr h => ?_
 unfold G77_9 at h
 split at h
 ·rename_i m s v t l n' i ns q k a b c d
  obtain ⟨hp, h⟩ := need_some h
  rw [yes_iff] at hp
  obtain ⟨h1, h2, h3, h4, h5, h6, h7⟩ := hp
  refine ⟨by rw [fuelC]; simp; omega, ?_⟩
  rw [show roundT C (mkTab sp77 lp77) 77 (loopOf C.P 77 9) l77_9 [m, s, v, t, l, n', i, ns, q, k, a, b, c, d] = _ from t77_9 m s v t l n' i ns q k a b c d]
  obtain ⟨x, hx⟩ : ∃ x : Nat, k.I = x := ⟨k.I.toNat, by omega⟩
  obtain ⟨y, hy⟩ : ∃ y : Nat, s.I = y := ⟨s.I.toNat, by omega⟩
  simp only [hx, hy, h3, Int.toNat_natCast, ix_def] at h h2 h5 ⊢
  refine rd_if (fun hlt => ?_) fun hge => rd_out (all_end h (by omega))
  have hkl : x < ns.L.length := by omega
  obtain ⟨s1, s2⟩ := all_step h hkl
  have hw := allFrom_iff.1 h7 x (Nat.zero_le _) (by omega)
  rw [Lite.within_iff] at hw
  rw [bit_zero y (ix (ns.L.getD x []) 0).toNat (by omega)]
  refine rd_dec ⟨by omega, by omega⟩ (rd_need (by rw [decide_eq_false (by omega)]; rfl) (rd_not (fun c1 => rd_out (s1 c1)) fun c1 => ?_))
  rw [wrap_succ (by omega)]
  exact rd_again ((need_yes ⟨by simp only [I_i]; omega, by simp only [I_i]; omega, rfl, by simp only [I_i]; omega, by simp only [I_i]; omega, h6, h7⟩).trans (s2 c1)) (show ((ns.L.length : Int) - ((x + 1 : Nat) : Int)).toNat < (q.I - k.I).toNat by omega)
 ·cases h
theorem ok77_3 (n : Nat) : LoopSim C n 77 (loopOf C.P 77 3) (mkL l77_3 G77_3) := by
 refine loop_of hC (sp := sp77) (lp := lp77) trivial [9] (by kernel_rfl) (by kernel_rfl) (fun k hk L hL => by simp at hk; subst hk; cases hL; exact ok77_9 n) (by kernel_rfl) (fun ds => ((ds.getD 5 default).I - (ds.getD 6 default).I).toNat) fun ds rr h => ?_
 unfold G77_3 at h
 split at h
 ·rename_i m s v t l n' i
  obtain ⟨hp, h⟩ := need_some h
  rw [yes_iff] at hp
  obtain ⟨h1, h2, h3, h4, h5, h6, h7, h8, h9, h10⟩ := hp
  obtain ⟨j1, j2⟩ := jobs_of h1
  refine ⟨by rw [fuelC]; simp; omega, ?_⟩
  rw [show roundT C (mkTab sp77 lp77) 77 (loopOf C.P 77 3) l77_3 [m, s, v, t, l, n', i] = _ from t77_3 m s v t l n' i]
  obtain ⟨x, hx⟩ : ∃ x : Nat, i.I = x := ⟨i.I.toNat, by omega⟩
  obtain ⟨y, hy⟩ : ∃ y : Nat, s.I = y := ⟨s.I.toNat, by omega⟩
  simp only [hx, hy, h4, Int.toNat_natCast, Int.toNat_zero, Nat.sub_zero, ix_def, lx_def, bx_def, Nat.zero_add, Nat.reduceAdd] at h h3 h6 h8 h10 ⊢
  refine rd_if (fun hlt => ?_) fun hge => ?_
  ·have hkl : x < l.L.length := by omega
   obtain ⟨q1, q2, q3⟩ := j2 x hkl
   rw [show l.L.length - x = (l.L.length - (x + 1)) + 1 by omega] at h
   simp only [worthFrom] at h
   rw [bit_zero y x (by omega), wrap_succ (by omega)]
   have hμ : ((l.L.length : Int) - ((x + 1 : Nat) : Int)).toNat < (n'.I - i.I).toNat := by omega
   refine rd_dec ⟨by omega, by omega⟩ (rd_need (by rw [decide_eq_false (by omega)]; rfl) (rd_not (fun c1 => rd_ite (fun c2 => ?_) fun c2 => ?_) fun c1 => ?_))
   ·simp only [c1, c2, Bool.false_eq_true, if_false, if_true] at h
    exact rd_out h
   ·simp only [c1, c2, Bool.false_eq_true, if_false] at h
    exact rd_again ((need_yes ⟨h1, by simp only [I_i]; omega, by simp only [I_i]; omega, rfl, by simp only [I_i]; omega, by simp only [I_i]; omega, h7, by simp only [I_i]; omega, h9, by simp only [I_i]; omega⟩).trans h) hμ
   ·simp only [c1, if_true] at h
    refine rd_yes ⟨by omega, by omega, by trivial, by omega, by omega, by omega, allFrom_iff.2 fun k _ hk => Lite.within_iff.2 (by have := q3 k (by omega); omega)⟩ (rd_ite (fun c2 => ?_) fun c2 => ?_)
    ·simp only [c2, if_true] at h
     have w1 : IntKind.i64.wrap (v.I + ix (l.L.getD x []) 1) = v.I + ix (l.L.getD x []) 1 := wrap_id (by omega) (by omega)
     have w2 : IntKind.i64.wrap (t.I + ix (l.L.getD x []) 0) = t.I + ix (l.L.getD x []) 0 := wrap_id (by omega) (by omega)
     rw [w1, w2]
     exact rd_again ((need_yes ⟨h1, by simp only [I_i]; omega, by simp only [I_i]; omega, rfl, by simp only [I_i]; omega, by simp only [I_i]; omega, by simp only [I_i]; omega, by simp only [I_i]; omega, by simp only [I_i]; omega, by simp only [I_i]; omega⟩).trans h) hμ
    ·simp only [c2, Bool.false_eq_true, if_false] at h
     exact rd_out h
  ·rw [show l.L.length - x = 0 by omega] at h
   exact rd_out h
 ·cases h
theorem worth_fail {l : List (List D)} {s : Nat} : ∀ k i v t, (worthFrom l s i k v t).2.2 = false → (worthFrom l s i k v t).1 = 0 ∧ (worthFrom l s i k v t).2.1 = 0
 | 0, _, _, _ => fun h => by cases h
 | k + 1, i, v, t => by
   simp only [worthFrom]
   split
   ·split
    ·exact worth_fail k _ _ _
    ·exact fun _ => ⟨rfl, rfl⟩
   ·split
    ·exact fun _ => ⟨rfl, rfl⟩
    ·exact worth_fail k _ _ _
theorem ok77 (n : Nat) : FnOK C (n + 1) 77 (mkF s77 G77) := by
 refine fn_of hC (sp := sp77) (lp := lp77) trivial (by kernel_rfl) [3] (by kernel_rfl) (by kernel_rfl) (fun k hk L hL => by
  simp at hk; subst hk; cases hL; exact ok77_3 n) fun ds rr h => ?_
 unfold G77 at h
 split at h
 ·rename_i l m s
  obtain ⟨hp, h⟩ := need_some h
  rw [yes_iff] at hp
  refine (congrArg T.run (t77 l m s)).trans ?_
  rw [← h]
  simp only [Int.toNat_zero, Nat.sub_zero]
  have e : worthFrom l.L s.I.toNat 0 l.L.length 0 0 = worthOf l.L s.I.toNat := rfl
  simp only [e]
  unfold worthOk
  refine go_yes ⟨hp.1, hp.2.1, hp.2.2, by trivial, by omega, by omega, by omega, by omega, by omega, by omega⟩ (go_ite (fun c => ?_) fun c => ?_)
  ·rw [c, Bool.true_and]
  ·obtain ⟨e1, e2⟩ := worth_fail _ _ _ _ c
   have e1' : (worthOf l.L s.I.toNat).1 = 0 := e1
   have e2' : (worthOf l.L s.I.toNat).2.1 = 0 := e2
   rw [c, e1', e2', Bool.false_and]
 ·cases h
theorem len_bits (s : Nat) : (bitsL s).length ≤ 20 := bits_len 20 0
theorem take_mkI (A : List Int) : (mkI A).take A.length = mkI A := List.take_of_length_le (by rw [len_mkI]; omega)
theorem ok74 (n : Nat) : FnOK C (n + 4) 74 (mkF s74 G74) := by
 refine fn_of hC (sp := sp74) (lp := lp74) ⟨ok76 (n + 2), ok75 n, trivial⟩ (by kernel_rfl) [] (by kernel_rfl) rfl (fun k hk => by cases hk) fun ds rr h => ?_
 unfold G74 at h
 split at h
 ·rename_i s v t s' v' t'
  obtain ⟨hp, h⟩ := need_some h
  rw [yes_iff] at hp
  refine (congrArg T.run (t74 s v t s' v' t')).trans ?_
  rw [← h]
  have hb : big = 4611686018427387904 := rfl
  have l1 := len_bits s.I.toNat
  have l2 := len_bits s'.I.toNat
  have n1 : (bitsL s.I.toNat).isEmpty = true → mkI (bitsL s.I.toNat) = [] := fun hh => by rw [List.isEmpty_iff] at hh; rw [hh]; rfl
  have n2 : (bitsL s'.I.toNat).isEmpty = true → mkI (bitsL s'.I.toNat) = [] := fun hh => by rw [List.isEmpty_iff] at hh; rw [hh]; rfl
  simp only [Int.toNat_natCast, take_mkI, len_mkI]
  unfold betterB
  refine go_ite (fun c => ?_) fun c => go_ite (fun c2 => ?_) fun c2 => ?_
  ·rw [if_pos (ne_of_bne c)]
  ·rw [if_neg (fun hh => hh (eq_of_bne c)), if_pos (ne_of_bne c2)]
  ·rw [if_neg (fun hh => hh (eq_of_bne c)), if_neg (fun hh => hh (eq_of_bne c2))]
   refine go_yes ⟨hp.1, hp.2.1⟩ (go_ite (fun c3 => go_yes hp.2.2 (go_ite (fun c4 => go_yes ⟨by simp; omega, by simp; omega⟩ ?_) fun c4 => go_dec (by omega) (go_yes ⟨by simp; omega, by omega⟩ ?_))) fun c3 => go_yes hp.2.2 (go_ite (fun c4 => go_dec (by omega) (go_yes ⟨by omega, by simp; omega⟩ ?_)) fun c4 => go_dec (by omega) (go_dec (by omega) (go_yes ⟨by omega, by omega⟩ rfl))))
   ·rw [n1 c3, n2 c4]; rfl
   ·rw [n1 c3]
   ·rw [n2 c4]
 ·cases h
theorem ok78_3 (n : Nat) : LoopSim C (n + 4) 78 (loopOf C.P 78 3) (mkL l78_3 G78_3) := by
 refine loop_of hC (sp := sp78) (lp := lp78) ⟨ok74 n, trivial⟩ [] (by kernel_rfl) rfl (fun k hk => by cases hk) (by kernel_rfl) (fun ds => ((ds.getD 1 default).I - (ds.getD 2 default).I).toNat) fun ds rr h => ?_
 unfold G78_3 at h
 split at h
 ·rename_i l m i a b c x y z
  obtain ⟨hp, h⟩ := need_some h
  rw [yes_iff] at hp
  obtain ⟨h1, h2, h3, h4, h5, h6⟩ := hp
  refine ⟨by rw [fuelC]; simp; omega, ?_⟩
  rw [show roundT C (mkTab sp78 lp78) 78 (loopOf C.P 78 3) l78_3 [l, m, i, a, b, c, x, y, z] = _ from t78_3 l m i a b c x y z]
  obtain ⟨k, hk⟩ : ∃ k : Nat, i.I = k := ⟨i.I.toNat, by omega⟩
  have hsx : 0 ≤ x.I ∧ x.I < 1048576 := h5
  have hs0 := h6
  unfold isSet at hs0
  simp only [hk, h2, Int.toNat_natCast, ix_def, Nat.zero_add, Nat.reduceAdd] at h h4 ⊢
  refine rd_if (fun hlt => ?_) fun hge => ?_
  ·obtain rfl : k = 0 := by omega
   have e : outR l.L ((0 : Nat) : Int) [x, y, z] = if betterR (l.L.getD 0 []) [x, y, z] then l.L.getD 0 [] else [x, y, z] := by unfold outR; rw [if_pos hlt]
   have eb : betterR (l.L.getD 0 []) [x, y, z] = betterB (ix (l.L.getD 0 []) 0).toNat (ix (l.L.getD 0 []) 1) (ix (l.L.getD 0 []) 2) x.I.toNat y.I z.I := rfl
   rw [e, eb] at h
   have hμ : ((l.L.length : Int) - ((0 + 1 : Nat) : Int)).toNat < (m.I - i.I).toNat := by omega
   have eo : ∀ r : List D, outR l.L ((0 + 1 : Nat) : Int) r = r := fun r => by unfold outR; rw [if_neg (by omega)]
   rw [wrap_succ (by omega)]
   refine rd_dec ⟨by omega, by omega⟩ (rd_yes ⟨hs0.1, hs0.2, hsx.1, hsx.2⟩ (rd_ite (fun c1 => ?_) fun c1 => ?_))
   ·rw [c1] at h
    refine rd_again ?_ hμ
    refine (need_yes ⟨h1, rfl, by simp only [I_i]; omega, by simp only [I_i]; omega, hs0, h6⟩).trans ?_
    simp only [L_l, I_i, eo]
    exact h
   ·rw [c1] at h
    refine rd_again ?_ hμ
    refine (need_yes ⟨h1, rfl, by simp only [I_i]; omega, by simp only [I_i]; omega, hsx, h6⟩).trans ?_
    simp only [L_l, I_i, eo]
    exact h
  ·have eo : ∀ r : List D, outR l.L (k : Int) r = r := fun r => by unfold outR; rw [if_neg (by omega)]
   rw [eo] at h
   exact rd_out h
 ·cases h
theorem ok78 (n : Nat) : FnOK C (n + 5) 78 (mkF s78 G78) := by
 refine fn_of hC (sp := sp78) (lp := lp78) ⟨ok74 n, trivial⟩ (by kernel_rfl) [3] (by kernel_rfl) (by kernel_rfl) (fun k hk L hL => by simp at hk; subst hk; cases hL; exact ok78_3 n) fun ds rr h => ?_
 unfold G78 at h
 split at h
 ·rename_i l
  obtain ⟨hp, h⟩ := need_some h
  rw [yes_iff] at hp
  obtain ⟨h1, h2, h3, h4⟩ := hp
  refine (congrArg T.run (t78 l)).trans ?_
  rw [← h]
  have e1 : Int.toNat 1 = 1 := rfl
  have e2 : (l.L.drop 1).take (l.L.length - 1) = l.L.drop 1 := List.take_of_length_le (by simp)
  have e3 : (l.L.drop 1).getD 0 [] = l.L.getD 1 [] := by simp [List.getD_eq_getElem?_getD]
  have e4 : (l.L.drop 1).length = l.L.length - 1 := by simp
  simp only [Int.toNat_zero, e1, e2, ix_def, Nat.zero_add, Nat.reduceAdd]
  refine go_dec ⟨by omega, by omega⟩ (go_dec ⟨by omega, by omega⟩ (go_yes ⟨by omega, by trivial, by omega, by omega, h3, by rw [e3]; exact h4⟩ ?_))
  have eo : nrm (outR (l.L.drop 1) 0 [.i (ix (l.L.getD 0 []) 0), .i (ix (l.L.getD 0 []) 1), .i (ix (l.L.getD 0 []) 2)]) = nrm (pickR l.L) := by
   unfold outR pickR
   rw [e3]
   have eb : betterR (l.L.getD 1 []) [.i (ix (l.L.getD 0 []) 0), .i (ix (l.L.getD 0 []) 1), .i (ix (l.L.getD 0 []) 2)] = betterR (l.L.getD 1 []) (l.L.getD 0 []) := rfl
   rw [eb]
   by_cases hl : l.L.length = 2
   ·rw [if_pos (by omega), if_pos hl]
    cases betterR (l.L.getD 1 []) (l.L.getD 0 []) <;> rfl
   ·rw [if_neg (by omega), if_neg hl]; rfl
  exact congrArg some eo
 ·cases h
set_option maxRecDepth 100000 in
theorem bytes153 : Try.prog.types[153].bytes = 24 := by kernel_rfl
theorem two_pow20 {n : Nat} (h : n ≤ 20) : 2 ^ n ≤ 1048576 := Nat.le_trans (Nat.pow_le_pow_right (by omega) h) (by decide)
theorem set_rowS {s : Nat} (v t : Int) (h : s < 1048576) : isSet (rowS s v t) := ⟨by show (0 : Int) ≤ (s : Int); omega, by show (s : Int) < 1048576; omega⟩
set_option maxRecDepth 100000 in
theorem ok28_6 (n : Nat) (hA : AllOK C n sp28) : LoopSim C n 28 (loopOf C.P 28 6) (mkL l28_6 G28_6) := by
 refine loop_of hC (sp := sp28) (lp := lp28) hA [] (by kernel_rfl) rfl (fun k hk => by cases hk) (by kernel_rfl) (fun ds => if ds.length = 5 then ((ds.getD 3 default).I - (ds.getD 4 default).I).toNat else ((ds.getD 4 default).I - (ds.getD 5 default).I).toNat) fun ds rr h => ?_
 have e1 : ∀ c : List D, List.take 1 [c] = [c] := fun _ => rfl
 have again : ∀ (l : List (List D)) (m : Int) (x : Nat) (p : List D), jobsOk l = true → x < 2 ^ l.length → isSet p → nrm p = p →
     (T.leaf (Ex.exit 0, [D.i 1, D.i 1, D.l [(bestFrom l m (x + 1) (2 ^ l.length - (x + 1)) (some p)).getD []]])).run = some rr →
     (G28_6 [.i 1, .l l, .i m, .i 1, .i (2 ^ l.length : Nat), .i (x + 1 : Nat), .l [[.i (ix p 0), .i (ix p 1), .i (ix p 2)]]]).run = some rr := by
  intro l m x p hj hx hs hn hh
  have e : ([.i (ix p 0), .i (ix p 1), .i (ix p 2)] : List D) = p := hn
  rw [e]
  refine (need_yes ⟨rfl, hj, rfl, by simp only [I_i]; omega, by simp only [I_i]; omega, rfl, ?_, hs⟩).trans ?_
  ·simp only [I_i, L_l, Int.toNat_natCast]
   exact hh
  ·show [p] = [nrm p]
   rw [hn]
 unfold G28_6 at h
 split at h
 ·rename_i j l m q s
  obtain ⟨hp, h'⟩ := need_some h
  clear h
  rw [yes_iff] at hp
  obtain ⟨rfl, h1, h2, h3, h4⟩ := hp
  have h := h'
  clear h'
  have hj := (jobs_of h1).1
  have hpow := two_pow20 hj
  refine ⟨by rw [fuelC]; simp; omega, ?_⟩
  rw [show roundT C (mkTab sp28 lp28) 28 (loopOf C.P 28 6) l28_6 [.i 0, l, m, q, s] = _ from t28_6_0 l m q s]
  obtain ⟨x, hx⟩ : ∃ x : Nat, s.I = x := ⟨s.I.toNat, by omega⟩
  simp only [hx, h2, Int.toNat_natCast, List.length_singleton, e1] at h h4 ⊢
  refine rd_if (fun hlt => ?_) fun hge => ?_
  ·have hxl : x < 2 ^ l.L.length := by omega
   have w : IntKind.wrap IntKind.u64 ((x : Int) + 1) = ((x + 1 : Nat) : Int) := by rw [wrap_u64 (by omega) (by omega)]; rfl
   rw [show 2 ^ l.L.length - x = (2 ^ l.L.length - (x + 1)) + 1 by omega] at h
   simp only [bestFrom, bestStep] at h
   rw [w]
   refine rd_yes ⟨h1, by omega, by omega⟩ (rd_ite (fun c => ?_) fun c => ?_)
   ·simp only [c, if_true] at h
    have hsome : ∀ k y p, (bestFrom l.L m.I y k (some p)).isSome = true := by
     intro k
     induction k with
     | zero => intro y p; rfl
     | succ k ih =>
       intro y p
       simp only [bestFrom, bestStep]
       split
       ·exact ih _ _
       ·exact ih _ _
    rw [run_ite, hsome] at h
    have hset := set_rowS (worthOf l.L x).1 (worthOf l.L x).2.1 (show x < 1048576 by omega)
    have hs1 : isSet (List.getD [rowS x (worthOf l.L x).1 (worthOf l.L x).2.1] 1 []) := ⟨by show (0 : Int) ≤ 0; omega, by show (0 : Int) < 1048576; omega⟩
    refine rd_need rfl (rd_false rfl (rd_need rfl (rd_need rfl (rd_yes ⟨by simp, by simp, hset, hs1⟩ (rd_again ?_ ?_)))))
    ·exact again l.L m.I x (rowS x (worthOf l.L x).1 (worthOf l.L x).2.1) h1 hxl hset rfl h
    ·show (((2 ^ l.L.length : Nat) : Int) - ((x + 1 : Nat) : Int)).toNat < (q.I - s.I).toNat
     omega
   ·simp only [c, Bool.false_eq_true, if_false] at h
    refine rd_again ?_ ?_
    ·refine (need_yes ⟨rfl, h1, rfl, by simp only [I_i]; omega, by simp only [I_i]; omega⟩).trans ?_
     simp only [I_i, L_l, Int.toNat_natCast]
     exact h
    ·show (((2 ^ l.L.length : Nat) : Int) - ((x + 1 : Nat) : Int)).toNat < (q.I - s.I).toNat
     omega
  ·rw [show 2 ^ l.L.length - x = 0 by omega] at h
   exact rd_out h
 ·rename_i j l m b q s row
  obtain ⟨hp, h'⟩ := need_some h
  clear h
  rw [yes_iff] at hp
  obtain ⟨rfl, h1, h2, h3, h4, h5, h6, h7⟩ := hp
  have h := h'
  clear h'
  have hj := (jobs_of h1).1
  have hpow := two_pow20 hj
  refine ⟨by rw [fuelC]; simp; omega, ?_⟩
  rw [show roundT C (mkTab sp28 lp28) 28 (loopOf C.P 28 6) l28_6 [.i 1, l, m, b, q, s, row] = _ from t28_6_1 l m b q s row]
  obtain ⟨x, hx⟩ : ∃ x : Nat, s.I = x := ⟨s.I.toNat, by omega⟩
  obtain ⟨r, hr⟩ : ∃ r, row.L.getD 0 [] = r := ⟨_, rfl⟩
  rw [hr] at h6 h7 h
  have hrn : nrm r = r := by rw [← hr, h6]; rfl
  rw [hrn] at h6
  rw [h6]
  have e2 : Int.toNat 1 = 1 := rfl
  simp only [hx, h2, h5, e2, Int.toNat_natCast, List.length_singleton, e1, List.singleton_append] at h h4 ⊢
  refine rd_if (fun hlt => ?_) fun hge => ?_
  ·have hxl : x < 2 ^ l.L.length := by omega
   have w : IntKind.wrap IntKind.u64 ((x : Int) + 1) = ((x + 1 : Nat) : Int) := by rw [wrap_u64 (by omega) (by omega)]; rfl
   rw [show 2 ^ l.L.length - x = (2 ^ l.L.length - (x + 1)) + 1 by omega] at h
   simp only [bestFrom, bestStep] at h
   rw [w]
   have hμ : (((2 ^ l.L.length : Nat) : Int) - ((x + 1 : Nat) : Int)).toNat < (q.I - s.I).toNat := by omega
   refine rd_yes ⟨h1, by omega, by omega⟩ (rd_ite (fun c => ?_) fun c => ?_)
   ·simp only [c, if_true] at h
    have hset := set_rowS (worthOf l.L x).1 (worthOf l.L x).2.1 (show x < 1048576 by omega)
    obtain ⟨p, hp⟩ : ∃ p, (if betterR (rowS x (worthOf l.L x).1 (worthOf l.L x).2.1) r then rowS x (worthOf l.L x).1 (worthOf l.L x).2.1 else r) = p := ⟨_, rfl⟩
    have hpick : pickR [r, rowS x (worthOf l.L x).1 (worthOf l.L x).2.1] = p := by rw [← hp]; rfl
    have hps : isSet p := by rw [← hp]; split <;> assumption
    have hpn : nrm p = p := by rw [← hp]; split; rfl; exact hrn
    rw [hp] at h
    refine rd_need rfl (rd_false rfl (rd_dec ⟨by simp, by simp, by rw [bytes153]; simp⟩ (rd_dec (by simp) (rd_yes ⟨by simp, by simp, h7, hset⟩ (rd_again ?_ hμ)))))
    have hpick' : pickR (List.take (1 + 1) [r, [D.i (x : Int), D.i (worthOf l.L x).1, D.i (worthOf l.L x).2.1]]) = p := hpick
    simp only [hpick']
    exact again l.L m.I x p h1 hxl hps hpn h
   ·simp only [c, Bool.false_eq_true, if_false] at h
    refine rd_again ?_ hμ
    refine (need_yes ⟨rfl, h1, rfl, by simp only [I_i]; omega, by simp only [I_i]; omega, rfl, ?_, h7⟩).trans ?_
    ·simp only [I_i, L_l, Int.toNat_natCast]
     exact h
    ·show [r] = [nrm r]
     rw [hrn]
  ·rw [show 2 ^ l.L.length - x = 0 by omega] at h
   exact rd_out h
 ·cases h
theorem best_set {l : List (List D)} {m : Int} : ∀ k s b, s + k ≤ 1048576 → (∀ r, b = some r → isSet r) → ∀ r, bestFrom l m s k b = some r → isSet r
 | 0, _, _, _, h, r, hr => h r hr
 | k + 1, s, b, hk, h, r, hr => by
   simp only [bestFrom] at hr
   refine best_set k (s + 1) _ (by omega) (fun q hq => ?_) r hr
   unfold bestStep at hq
   split at hq
   ·simp only [Option.some.injEq] at hq
    subst hq
    split
    ·exact set_rowS _ _ (by omega)
    ·split
     ·exact set_rowS _ _ (by omega)
     ·exact h _ rfl
   ·exact h q hq
set_option maxRecDepth 100000 in
theorem ok28 (n : Nat) (hA : AllOK C n sp28) : FnOK C (n + 1) 28 (mkF s28 G28) := by
 refine fn_of hC (sp := sp28) (lp := lp28) hA (by kernel_rfl) [6] (by kernel_rfl) (by kernel_rfl) (fun k hk L hL => by simp at hk; subst hk; cases hL; exact ok28_6 n hA) fun ds rr h => ?_
 unfold G28 at h
 split at h
 ·rename_i l m
  obtain ⟨hp, h⟩ := need_some h
  rw [yes_iff] at hp
  refine (congrArg T.run (t28 l m)).trans ?_
  refine go_yes hp (go_not (fun c => ?_) fun c => go_not (fun c2 => ?_) fun c2 => ?_)
  ·rw [run_ite, c, Bool.false_and] at h; exact h
  ·rw [run_ite, c2, Bool.and_false] at h; exact h
  ·rw [run_ite, c, c2, Bool.true_and] at h
   have hj := (jobs_of c).1
   have hpow := two_pow20 hj
   have hp0 : 1 ≤ 2 ^ l.L.length := Nat.one_le_two_pow
   have w : IntKind.wrap IntKind.u64 (1 * 2 ^ min (Int.toNat (l.L.length : Int)) (IntKind.bits IntKind.u64)) = ((2 ^ l.L.length : Nat) : Int) := by
    have e : IntKind.bits IntKind.u64 = 64 := rfl
    rw [e, Int.toNat_natCast, Nat.min_eq_left (by omega), Int.one_mul]
    have : (2 : Int) ^ l.L.length = ((2 ^ l.L.length : Nat) : Int) := by simp
    rw [this]
    exact wrap_u64 (by omega) (by omega)
   have eb : bestFrom l.L m.I (Int.toNat 0) (2 ^ l.L.length - Int.toNat 0) none = bestAll l.L m.I := rfl
   rw [w]
   simp only [eb, ix_def]
   refine go_need rfl (go_yes ⟨by trivial, c, by trivial, by omega, by omega⟩ (go_ite (fun b => ?_) fun b => ?_))
   ·have h' : (T.ite (bestAll l.L m.I).isSome (T.leaf [D.l (mkI (bitsL (ix ((bestAll l.L m.I).getD []) 0).toNat)), D.i 0]) (T.leaf [D.l [], D.i 5])).run = some rr := h
    rw [run_ite, b] at h'
    obtain ⟨r, hr⟩ := Option.isSome_iff_exists.1 b
    have hset : isSet ((bestAll l.L m.I).getD []) := by
     rw [hr]
     exact best_set _ 0 none (by omega) (fun r hr => by cases hr) r hr
    refine go_false rfl (go_need rfl (go_need rfl (go_yes hset (go_ite (fun e => ?_) fun e => ?_))))
    ·have e' : bitsL (ix ((bestAll l.L m.I).getD []) 0).toNat = [] := List.isEmpty_iff.1 e
     rw [e'] at h'
     exact h'
    ·refine go_dec (by rw [Int.toNat_natCast, len_mkI]; exact Nat.le_refl _) (Eq.trans ?_ h')
     rw [List.take_of_length_le (by rw [Int.toNat_natCast, len_mkI]; exact Nat.le_refl _)]
     rfl
   ·have h' : (T.ite (bestAll l.L m.I).isSome (T.leaf [D.l (mkI (bitsL (ix ((bestAll l.L m.I).getD []) 0).toNat)), D.i 0]) (T.leaf [D.l [], D.i 5])).run = some rr := h
    rw [run_ite, b] at h'
    exact go_true rfl h'
 ·cases h
def μ27 (ds : List D) : Nat := match ds with
 | [l, i, k] => (((lx (l.L.getD i.I.toNat []) 3).length : Int) - k.I).toNat
 | _ => 0
theorem ok27_9 (n : Nat) : LoopSim C (n + 1) 27 (loopOf C.P 27 9) (mkL l27_9 G27_9) := by
 refine loop_of hC (sp := sp27) (lp := lp27) ⟨ok46 n, trivial⟩ [] (by kernel_rfl) rfl (fun k hk => by cases hk) (by kernel_rfl) μ27 fun ds rr h => ?_
 unfold G27_9 at h
 split at h
 ·rename_i l i k
  obtain ⟨hp, h⟩ := need_some h
  rw [yes_iff] at hp
  obtain ⟨h1, h2, h3, h4, h5⟩ := hp
  obtain ⟨n1, n2⟩ := id h1
  have hb : big = 4611686018427387904 := rfl
  refine ⟨by rw [fuelC]; show (((lx (l.L.getD i.I.toNat []) 3).length : Int) - k.I).toNat < _; have := n2 i.I.toNat; omega, ?_⟩
  rw [show roundT C (mkTab sp27 lp27) 27 (loopOf C.P 27 9) l27_9 [l, i, k] = _ from t27_9 l i k]
  obtain ⟨x, hx⟩ : ∃ x : Nat, k.I = x := ⟨k.I.toNat, by omega⟩
  obtain ⟨y, hy⟩ : ∃ y : Nat, i.I = y := ⟨i.I.toNat, by omega⟩
  have w0 : IntKind.i64.wrap ((y : Int) - 1) = (y : Int) - 1 := wrap_id (by omega) (by omega)
  simp only [hx, hy, w0, Int.toNat_natCast, ix_def, lx_def, Nat.zero_add, Nat.reduceAdd] at h h3 h5 ⊢
  have hny := n2 y
  refine rd_dec ⟨by omega, by omega⟩ (rd_if (fun hlt => ?_) fun hge => rd_out (all_end h (by omega)))
  have hkl : x < (lx (l.L.getD y []) 3).length := by omega
  obtain ⟨s1, s2⟩ := all_step h hkl
  rw [wrap_succ (by omega)]
  have hμ : μ27 [.l l.L, .i y, .i (x + 1 : Nat)] < μ27 [l, i, k] := by
   show (((lx (l.L.getD (Int.toNat (y : Int)) []) 3).length : Int) - ((x + 1 : Nat) : Int)).toNat < (((lx (l.L.getD i.I.toNat []) 3).length : Int) - k.I).toNat
   rw [hx, hy, Int.toNat_natCast]; omega
  have again : needJ y (lx (l.L.getD y []) 3) x = true → RdOK G27_9 μ27 [l, i, k] rr (T.leaf (Rd.again [.l l.L, .i y, .i (x + 1 : Nat)])).run := fun hh =>
   rd_again ((need_yes ⟨h1, by simp only [I_i]; omega, by simp only [I_i, L_l]; omega, by simp only [I_i]; omega, by simp only [I_i, L_l, Int.toNat_natCast]; omega⟩).trans (by simp only [I_i, L_l, Int.toNat_natCast]; exact s2 hh)) hμ
  refine rd_dec ⟨by omega, by omega⟩ (rd_dec ⟨by omega, by omega⟩ (rd_not (fun c1 => rd_out (s1 ?_)) fun c1 => rd_if (fun c2 => ?_) fun c2 => ?_))
  ·unfold needJ; rw [c1, Bool.false_and]
  ·have w1 : IntKind.i64.wrap ((x : Int) - 1) = (x : Int) - 1 := wrap_id (by omega) (by omega)
   rw [w1, show ((x : Int) - 1).toNat = x - 1 by omega]
   refine rd_dec ⟨by omega, by omega⟩ (rd_dec ⟨by omega, by omega⟩ (rd_dec ⟨by omega, by omega⟩ (rd_dec ⟨by omega, by omega⟩ (rd_if (fun c3 => rd_out (s1 ?_)) fun c3 => again ?_))))
   ·unfold needJ
    rw [decide_eq_false (show ¬ x = 0 by omega), decide_eq_false (show ¬ ix ((lx (l.L.getD y []) 3).getD (x - 1) []) 0 < ix ((lx (l.L.getD y []) 3).getD x []) 0 by omega)]
    simp
   ·unfold needJ
    rw [c1, decide_eq_true (show ix ((lx (l.L.getD y []) 3).getD (x - 1) []) 0 < ix ((lx (l.L.getD y []) 3).getD x []) 0 by omega)]
    simp
  ·refine again ?_
   unfold needJ
   rw [c1, decide_eq_true (show x = 0 by omega)]
   simp
 ·cases h
theorem ok27_4 (n : Nat) : LoopSim C (n + 1) 27 (loopOf C.P 27 4) (mkL l27_4 G27_4) := by
 refine loop_of hC (sp := sp27) (lp := lp27) ⟨ok46 n, trivial⟩ [9] (by kernel_rfl) (by kernel_rfl) (fun k hk L hL => by simp at hk; subst hk; cases hL; exact ok27_9 n) (by kernel_rfl) (fun ds => (((ds.getD 0 default).L.length : Int) - (ds.getD 1 default).I).toNat) fun ds rr h => ?_
 unfold G27_4 at h
 split at h
 ·rename_i l i
  obtain ⟨hp, h⟩ := need_some h
  rw [yes_iff] at hp
  obtain ⟨h1, h2, h3⟩ := hp
  obtain ⟨n1, n2⟩ := id h1
  have hb : big = 4611686018427387904 := rfl
  refine ⟨by rw [fuelC]; simp; omega, ?_⟩
  rw [show roundT C (mkTab sp27 lp27) 27 (loopOf C.P 27 4) l27_4 [l, i] = _ from t27_4 l i]
  obtain ⟨x, hx⟩ : ∃ x : Nat, i.I = x := ⟨i.I.toNat, by omega⟩
  simp only [hx, Int.toNat_natCast, Int.toNat_zero, Nat.sub_zero, ix_def, Nat.zero_add] at h h3 ⊢
  refine rd_if (fun hlt => ?_) fun hge => rd_out (all_end h (by omega))
  have hkl : x < l.L.length := by omega
  obtain ⟨s1, s2⟩ := all_step h hkl
  refine rd_dec ⟨by omega, by omega⟩ (rd_not (fun c1 => rd_out (s1 ?_)) fun c1 => rd_dec ⟨by omega, by omega⟩ (rd_not (fun c2 => rd_out (s1 ?_)) fun c2 => rd_yes ⟨h1, by omega, by omega, by omega, by omega⟩ (rd_ite (fun c3 => ?_) fun c3 => rd_out (s1 ?_))))
  ·unfold jobAt jobP; rw [c1]; simp
  ·unfold jobAt jobP; rw [c2]; simp
  ·rw [wrap_succ (by omega)]
   exact rd_again ((need_yes ⟨h1, by simp only [I_i]; omega, by simp only [I_i, L_l]; omega⟩).trans (s2 (by unfold jobAt jobP; rw [c1, c2, c3]; rfl))) (show ((l.L.length : Int) - ((x + 1 : Nat) : Int)).toNat < ((l.L.length : Int) - i.I).toNat by omega)
  ·unfold jobAt; rw [c3]; simp
 ·cases h
theorem ok27 (n : Nat) : FnOK C (n + 2) 27 (mkF s27 G27) := by
 refine fn_of hC (sp := sp27) (lp := lp27) ⟨ok46 n, trivial⟩ (by kernel_rfl) [4] (by kernel_rfl) (by kernel_rfl) (fun k hk L hL => by simp at hk; subst hk; cases hL; exact ok27_4 n) fun ds rr h => ?_
 unfold G27 at h
 split at h
 ·rename_i l m
  obtain ⟨hp, h⟩ := need_some h
  rw [yes_iff] at hp
  refine (congrArg T.run (t27 l m)).trans ?_
  rw [← h]
  simp only [Int.toNat_zero, Nat.sub_zero]
  unfold jobsOk
  refine go_if (fun c => ?_) fun c => go_not (fun c1 => by simp [c1]) fun c1 => go_yes ⟨hp, by omega, by omega⟩ (go_ite (fun c2 => ?_) fun c2 => by simp [c2])
  ·have : ¬ l.L.length ≤ 20 := by omega
   simp [this]
  ·have : l.L.length ≤ 20 := by omega
   simp [c1, c2, this]
 ·cases h
noncomputable def sp95 : SpL := [(64, mkF s64 G64)]
noncomputable def lp95 : LpL := []
noncomputable def sw95 : SwL := []
noncomputable def tab95 : Tab := mkTab sp95 lp95 sw95
noncomputable def sp127 : SpL := [(95, mkF s95 G95)]
noncomputable def lp127 : LpL := [(2, mkL l127_2 G127_2)]
noncomputable def sw127 : SwL := []
noncomputable def tab127 : Tab := mkTab sp127 lp127 sw127
noncomputable def sp94 : SpL := [(127, mkF s127 G127), (95, mkF s95 G95)]
noncomputable def lp94 : LpL := []
noncomputable def sw94 : SwL := []
noncomputable def tab94 : Tab := mkTab sp94 lp94 sw94
noncomputable def sp47 : SpL := [(64, mkF s64 G64), (94, mkF s94 G94)]
noncomputable def lp47 : LpL := []
noncomputable def sw47 : SwL := []
noncomputable def tab47 : Tab := mkTab sp47 lp47 sw47
noncomputable def sp48 : SpL := []
noncomputable def lp48 : LpL := [(3, mkL l48_3 G48_3)]
noncomputable def sw48 : SwL := []
noncomputable def tab48 : Tab := mkTab sp48 lp48 sw48
noncomputable def sp13 : SpL := [(46, mkF s46 G46)]
noncomputable def lp13 : LpL := [(4, mkL l13_4 G13_4)]
noncomputable def sw13 : SwL := []
noncomputable def tab13 : Tab := mkTab sp13 lp13 sw13
noncomputable def sp14 : SpL := [(47, mkF s47 G47), (48, mkF s48 G48)]
noncomputable def lp14 : LpL := [(8, mkL l14_8 G14_8), (15, mkL l14_15 G14_15), (21, mkL l14_21 G14_21)]
noncomputable def sw14 : SwL := []
noncomputable def tab14 : Tab := mkTab sp14 lp14 sw14
end Go.Proofs.Ytgoedfonmocafaa
