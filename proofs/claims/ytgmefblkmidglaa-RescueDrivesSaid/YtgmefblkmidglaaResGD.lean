/-
  Shapes of arguments, results and loops. Written by program.
  Ways, plainly: the first hop that still comes in time.
  Ways: what the program and the document compute.
  Ways, plainly: exact hops and at most so many hops come to the same ways.
  Where a head has several shapes, a number says which.
-/
import Derived.Test.YtgmefblkmidglaaResGC
import Derived.Test.YtgmefblkmidglaaResGB
namespace Go.Proofs.Ytgmefblkmidglaa
open Go.Lite
def s23 : Sig := ⟨[.agg [.k (.int .i64), .k (.ro [.int .i64, .int .i64, .int .i64, .ro [.int .i64, .int .i64]])], .k (.int .i64), .k (.int .i64), .k (.int .i64)], [(.tup [.nils, .k (.int .i64), .k (.int .i64)], []), (.tup [.sl 0 2, .k (.int .i64), .k (.int .i64)], [.row [.int .i64, .int .i64]])]⟩
def l23_8 : LSig := mkLS [3, 4, 11, 12, 13] [(109, [(3, .k (.int .i64)), (4, .ptr 0 2 0 0), (11, .k (.int .i64)), (12, .ptr 1 2 0 0), (13, .k (.int .i64))], [.box [.k (.int .i64), .k (.ro [.int .i64, .int .i64, .int .i64, .ro [.int .i64, .int .i64]])], .box [.k (.int .i64), .k (.int .i64)]])] [(.exit 0, [3, 4, 11, 12, 13], [(109, [(3, .k (.int .i64)), (4, .ptr 0 2 0 0), (11, .k (.int .i64)), (12, .ptr 1 2 0 0), (13, .k (.int .i64))], [.box [.k (.int .i64), .k (.ro [.int .i64, .int .i64, .int .i64, .ro [.int .i64, .int .i64]])], .box [.k (.int .i64), .k (.int .i64)]])])]
def l23_11 : LSig := mkLS [3, 4, 11, 12, 13, 14] [(109, [(3, .k (.int .i64)), (4, .ptr 0 2 0 0), (11, .k (.int .i64)), (12, .ptr 1 2 0 0), (13, .k (.int .i64)), (14, .nils)], [.box [.k (.int .i64), .k (.ro [.int .i64, .int .i64, .int .i64, .ro [.int .i64, .int .i64]])], .box [.k (.int .i64), .k (.int .i64)]]), (109, [(3, .k (.int .i64)), (4, .ptr 0 2 0 0), (11, .k (.int .i64)), (12, .ptr 1 2 0 0), (13, .k (.int .i64)), (14, .sl 2 2)], [.box [.k (.int .i64), .k (.ro [.int .i64, .int .i64, .int .i64, .ro [.int .i64, .int .i64]])], .box [.k (.int .i64), .k (.int .i64)], .row [.int .i64, .int .i64]])] [(.exit 2, [11, 14], [(109, [(11, .k (.int .i64)), (14, .nils)], []), (109, [(11, .k (.int .i64)), (14, .sl 0 2)], [.row [.int .i64, .int .i64]])])]
def l23_14 : LSig := mkLS [3, 4, 11, 12, 13, 14, 69, 70, 71] [(109, [(3, .k (.int .i64)), (4, .ptr 0 2 0 0), (11, .k (.int .i64)), (12, .ptr 1 2 0 0), (13, .k (.int .i64)), (14, .nils), (69, .k (.ro [.int .i64, .int .i64, .int .i64, .ro [.int .i64, .int .i64]])), (70, .k (.int .i64)), (71, .k (.int .i64))], [.box [.k (.int .i64), .k (.ro [.int .i64, .int .i64, .int .i64, .ro [.int .i64, .int .i64]])], .box [.k (.int .i64), .k (.int .i64)]]), (109, [(3, .k (.int .i64)), (4, .ptr 0 2 0 0), (11, .k (.int .i64)), (12, .ptr 1 2 0 0), (13, .k (.int .i64)), (14, .sl 2 2), (69, .k (.ro [.int .i64, .int .i64, .int .i64, .ro [.int .i64, .int .i64]])), (70, .k (.int .i64)), (71, .k (.int .i64))], [.box [.k (.int .i64), .k (.ro [.int .i64, .int .i64, .int .i64, .ro [.int .i64, .int .i64]])], .box [.k (.int .i64), .k (.int .i64)], .row [.int .i64, .int .i64]])] [(.exit 3, [3, 4, 11, 12, 13, 14], [(109, [(3, .k (.int .i64)), (4, .ptr 0 2 0 0), (11, .k (.int .i64)), (12, .ptr 1 2 0 0), (13, .k (.int .i64)), (14, .sl 2 2)], [.box [.k (.int .i64), .k (.ro [.int .i64, .int .i64, .int .i64, .ro [.int .i64, .int .i64]])], .box [.k (.int .i64), .k (.int .i64)], .row [.int .i64, .int .i64]])]), (.exit 4, [3, 4, 11, 12, 13, 14], [(109, [(3, .k (.int .i64)), (4, .ptr 0 2 0 0), (11, .k (.int .i64)), (12, .ptr 1 2 0 0), (13, .k (.int .i64)), (14, .nils)], [.box [.k (.int .i64), .k (.ro [.int .i64, .int .i64, .int .i64, .ro [.int .i64, .int .i64]])], .box [.k (.int .i64), .k (.int .i64)]]), (109, [(3, .k (.int .i64)), (4, .ptr 0 2 0 0), (11, .k (.int .i64)), (12, .ptr 1 2 0 0), (13, .k (.int .i64)), (14, .sl 2 2)], [.box [.k (.int .i64), .k (.ro [.int .i64, .int .i64, .int .i64, .ro [.int .i64, .int .i64]])], .box [.k (.int .i64), .k (.int .i64)], .row [.int .i64, .int .i64]])])]
def s24 : Sig := ⟨[.agg [.k (.int .i64), .k (.ro [.int .i64, .int .i64, .int .i64, .ro [.int .i64, .int .i64]])], .k (.int .i64), .k (.int .i64), .k (.int .i64)], [(.nils, []), (.sl 0 2, [.row [.int .i64, .int .i64]])]⟩
def l24_3 : LSig := mkLS [1, 2, 3, 4, 9, 10] [(89, [(1, .k (.int .i64)), (2, .k (.int .i64)), (3, .k (.int .i64)), (4, .ptr 0 2 0 0), (9, .k (.int .i64)), (10, .k (.int .i64))], [.box [.k (.int .i64), .k (.ro [.int .i64, .int .i64, .int .i64, .ro [.int .i64, .int .i64]])]])] [(.exit 0, [1, 2, 3, 4, 9, 10], [(89, [(1, .k (.int .i64)), (2, .k (.int .i64)), (3, .k (.int .i64)), (4, .ptr 0 2 0 0), (9, .k (.int .i64)), (10, .k (.int .i64))], [.box [.k (.int .i64), .k (.ro [.int .i64, .int .i64, .int .i64, .ro [.int .i64, .int .i64]])]])])]
def l24_7 : LSig := mkLS [3, 4, 9, 10, 11, 12, 13] [(89, [(3, .k (.int .i64)), (4, .ptr 0 2 0 0), (9, .k (.int .i64)), (10, .k (.int .i64)), (11, .nils), (12, .k (.int .i64)), (13, .k (.int .i64))], [.box [.k (.int .i64), .k (.ro [.int .i64, .int .i64, .int .i64, .ro [.int .i64, .int .i64]])]]), (89, [(3, .k (.int .i64)), (4, .ptr 0 2 0 0), (9, .k (.int .i64)), (10, .k (.int .i64)), (11, .sl 1 2), (12, .k (.int .i64)), (13, .k (.int .i64))], [.box [.k (.int .i64), .k (.ro [.int .i64, .int .i64, .int .i64, .ro [.int .i64, .int .i64]])], .row [.int .i64, .int .i64]])] [(.exit 2, [11], [(89, [(11, .nils)], []), (89, [(11, .sl 0 2)], [.row [.int .i64, .int .i64]])])]
def l24_10 : LSig := mkLS [3, 4, 9, 10, 11, 12, 13, 14] [(89, [(3, .k (.int .i64)), (4, .ptr 0 2 0 0), (9, .k (.int .i64)), (10, .k (.int .i64)), (11, .nils), (12, .k (.int .i64)), (13, .k (.int .i64)), (14, .k (.int .i64))], [.box [.k (.int .i64), .k (.ro [.int .i64, .int .i64, .int .i64, .ro [.int .i64, .int .i64]])]]), (89, [(3, .k (.int .i64)), (4, .ptr 0 2 0 0), (9, .k (.int .i64)), (10, .k (.int .i64)), (11, .sl 1 2), (12, .k (.int .i64)), (13, .k (.int .i64)), (14, .k (.int .i64))], [.box [.k (.int .i64), .k (.ro [.int .i64, .int .i64, .int .i64, .ro [.int .i64, .int .i64]])], .row [.int .i64, .int .i64]])] [(.exit 4, [3, 4, 9, 10, 11, 12, 13], [(89, [(3, .k (.int .i64)), (4, .ptr 0 2 0 0), (9, .k (.int .i64)), (10, .k (.int .i64)), (11, .sl 1 2), (12, .k (.int .i64)), (13, .k (.int .i64))], [.box [.k (.int .i64), .k (.ro [.int .i64, .int .i64, .int .i64, .ro [.int .i64, .int .i64]])], .row [.int .i64, .int .i64]]), (89, [(3, .k (.int .i64)), (4, .ptr 0 2 0 0), (9, .k (.int .i64)), (10, .k (.int .i64)), (11, .nils), (12, .k (.int .i64)), (13, .k (.int .i64))], [.box [.k (.int .i64), .k (.ro [.int .i64, .int .i64, .int .i64, .ro [.int .i64, .int .i64]])]])])]
end Go.Proofs.Ytgmefblkmidglaa

namespace Go.Proofs.Ytgmefblkmidglaa
open Go.Lite
noncomputable section
/-- The first number from k on. -/
def seekF (p : Nat → Bool) : Nat → Nat → Nat
  | 0, k => k
  | f + 1, k => if p k then k else seekF p f (k + 1)
/-- The first road of r from i on that p takes. -/
def roadF (p : Nat → Bool) : Nat → Nat → Option Nat
  | _, 0 => none
  | i, m + 1 => if p i then some i else roadF p (i + 1) m
/-- A way of so many hops; q l v t: with l hops from v at t one still comes in time. -/
def wayF (r : List (List D)) (q : Nat → Int → Int → Bool) : Nat → Int → Int → List (List D)
  | 0, _, _ => []
  | l + 1, v, t =>
    match roadF (fun i => decide (ix (r.getD i []) 0 = v) && q l (ix (r.getD i []) 1) (entW (r.getD i []) t + ix (r.getD i []) 2)) 0 r.length with
    | none => wayF r q l v t
    | some i => [.i i, .i (entW (r.getD i []) t)] :: wayF r q l (ix (r.getD i []) 1) (entW (r.getD i []) t + ix (r.getD i []) 2)
def qE (n : Int) (r : List (List D)) (to best : Int) (l : Nat) (v t : Int) : Bool := rg (exactF n r l (startE n v t)) to.toNat == best
def qR (n : Int) (r : List (List D)) (to best : Int) (l : Nat) (v t : Int) : Bool := rg (reachF r l (beginF n v t)) to.toNat == best
end
end Go.Proofs.Ytgmefblkmidglaa

namespace Go.Proofs.Ytgmefblkmidglaa
open Go.Lite
noncomputable section
/-- The road that is taken next, of those from i on. -/
def pickF (r : List (List D)) (q : Nat → Int → Int → Bool) (l : Nat) (v t : Int) (i m : Nat) : Option Nat := roadF (fun i => decide (ix (r.getD i []) 0 = v) && q l (ix (r.getD i []) 1) (entW (r.getD i []) t + ix (r.getD i []) 2)) i m
def pickB (r : List (List D)) (q : Nat → Int → Int → Bool) (l : Nat) (v t : Int) (i m : Nat) : Bool := (pickF r q l v t i m).isSome
def pickI (r : List (List D)) (q : Nat → Int → Int → Bool) (l : Nat) (v t : Int) (i m : Nat) : Nat := (pickF r q l v t i m).getD 0
/-- Where one is after a road, when, and the hop. -/
def toR (r : List (List D)) (i : Nat) : Int := ix (r.getD i []) 1
def tmR (r : List (List D)) (i : Nat) (t : Int) : Int := entW (r.getD i []) t + ix (r.getD i []) 2
def hopR (r : List (List D)) (i : Nat) (t : Int) : List D := [.i i, .i (entW (r.getD i []) t)]
def okWay (n left v t to : Int) (r : List (List D)) : Prop := netB n r = true ∧ (0 ≤ left ∧ left ≤ 1000) ∧ (0 ≤ v ∧ v < n) ∧ (0 ≤ t ∧ t + 10000 * left ≤ 10100000) ∧ 0 ≤ to ∧ to < n
def hopsE (n : Int) (r : List (List D)) (v t to best : Int) (k : Nat) : Nat := seekF (fun l => qE n r to best l v t) (1000 - k) k
def hopsR (n : Int) (r : List (List D)) (v t to best : Int) (k : Nat) : Nat := seekF (fun l => qR n r to best l v t) (1000 - k) k
def comesE (n : Int) (r : List (List D)) (v t to best : Int) (k : Nat) : Prop := ∃ l, k ≤ l ∧ l ≤ 1000 ∧ qE n r to best l v t = true
def comesR (n : Int) (r : List (List D)) (v t to best : Int) (k : Nat) : Prop := ∃ l, k ≤ l ∧ l ≤ 1000 ∧ qR n r to best l v t = true
def wayE (n : Int) (r : List (List D)) (to best : Int) (l : Nat) (v t : Int) : List (List D) := wayF r (qE n r to best) l v t
def wayO (n : Int) (r : List (List D)) (to best : Int) (l : Nat) (v t : Int) : List (List D) := wayF r (qR n r to best) l v t
def bestF (n : Int) (r : List (List D)) (v t to : Int) : Int := rg (arrF n r v t) to.toNat
def progW (n : Int) (r : List (List D)) (v t to : Int) : List (List D) := wayE n r to (bestF n r v t to) (hopsE n r v t to (bestF n r v t to) 0) v t
def docA (n : Int) (r : List (List D)) (v t to : Int) : Int := rg (reachF r n.toNat (beginF n v t)) to.toNat
def docW (n : Int) (r : List (List D)) (v t to : Int) : List (List D) := wayO n r to (docA n r v t to) (hopsR n r v t to (docA n r v t to) 0) v t
def G23 (ds : List D) : T (List D) := match ds with
  | [n, r, v, t, to] => .ite (netB n.I r.L && nodeB n.I v.I t.I && nodeB n.I to.I 0)
      (.ite (decide (bestF n.I r.L v.I t.I to.I < 0)) (.leaf [.i 0, .i 0, .i 5])
        (.ite (progW n.I r.L v.I t.I to.I).isEmpty (.leaf [.i 0, .i (bestF n.I r.L v.I t.I to.I), .i 0])
          (.leaf [.i 1, .i (progW n.I r.L v.I t.I to.I).length, .i (bestF n.I r.L v.I t.I to.I), .i 0, .l (progW n.I r.L v.I t.I to.I)])))
      (.leaf [.i 0, .i 0, .i 2])
  | _ => .fail
def G23_8 (ds : List D) : T (Ex × List D) := match ds with
  | [to, best, left, n, r, v, t] => .need (yes (netB n.I r.L = true ∧ (0 ≤ left.I ∧ left.I ≤ 1000) ∧ (0 ≤ v.I ∧ v.I < n.I) ∧ (0 ≤ t.I ∧ t.I ≤ 100000) ∧ (0 ≤ to.I ∧ to.I < n.I) ∧ comesE n.I r.L v.I t.I to.I best.I left.I.toNat))
      (.leaf (.exit 0, [.i to.I, .i best.I, .i (hopsE n.I r.L v.I t.I to.I best.I left.I.toNat), .i n.I, .l r.L, .i v.I, .i t.I]))
  | _ => .fail
def G23_11 (ds : List D) : T (Ex × List D) := match ds with
  | [j, to, best, left, n, r, v, t] => .need (yes (j.I = 0 ∧ okWay n.I left.I v.I t.I to.I r.L))
      (.ite (wayE n.I r.L to.I best.I left.I.toNat v.I t.I).isEmpty (.leaf (.exit 2, [.i 0, .i best.I])) (.leaf (.exit 2, [.i 1, .i best.I, .i (wayE n.I r.L to.I best.I left.I.toNat v.I t.I).length, .l (wayE n.I r.L to.I best.I left.I.toNat v.I t.I)])))
  | [j, to, best, left, m, n, r, v, t, o] => .need (yes (j.I = 1 ∧ okWay n.I left.I v.I t.I to.I r.L ∧ m.I = o.L.length ∧ m.I + left.I ≤ 1000 ∧ 0 < m.I))
      (.leaf (.exit 2, [.i 1, .i best.I, .i (o.L ++ wayE n.I r.L to.I best.I left.I.toNat v.I t.I).length, .l (o.L ++ wayE n.I r.L to.I best.I left.I.toNat v.I t.I)]))
  | _ => .fail
def G23_14 (ds : List D) : T (Ex × List D) := match ds with
  | [j, to, best, left, r', q, i, n, r, v, t] => .need (yes (j.I = 0 ∧ okWay n.I (left.I + 1) v.I t.I to.I r.L ∧ 0 ≤ left.I ∧ r'.L = r.L ∧ q.I = r.L.length ∧ 0 ≤ i.I ∧ i.I ≤ r.L.length))
      (.ite (pickB r.L (qE n.I r.L to.I best.I) left.I.toNat v.I t.I i.I.toNat (r.L.length - i.I.toNat))
        (.leaf (.exit 3, [.i to.I, .i best.I, .i left.I, .i 1, .i n.I, .l r.L, .i (toR r.L (pickI r.L (qE n.I r.L to.I best.I) left.I.toNat v.I t.I i.I.toNat (r.L.length - i.I.toNat))), .i (tmR r.L (pickI r.L (qE n.I r.L to.I best.I) left.I.toNat v.I t.I i.I.toNat (r.L.length - i.I.toNat)) t.I), .l [hopR r.L (pickI r.L (qE n.I r.L to.I best.I) left.I.toNat v.I t.I i.I.toNat (r.L.length - i.I.toNat)) t.I]]))
        (.leaf (.exit 4, [.i 0, .i to.I, .i best.I, .i left.I, .i n.I, .l r.L, .i v.I, .i t.I])))
  | [j, to, best, left, m, r', q, i, n, r, v, t, o] => .need (yes (j.I = 1 ∧ okWay n.I (left.I + 1) v.I t.I to.I r.L ∧ 0 ≤ left.I ∧ r'.L = r.L ∧ q.I = r.L.length ∧ (0 ≤ i.I ∧ i.I ≤ r.L.length) ∧ m.I = o.L.length ∧ m.I ≤ 1000))
      (.ite (pickB r.L (qE n.I r.L to.I best.I) left.I.toNat v.I t.I i.I.toNat (r.L.length - i.I.toNat))
        (.leaf (.exit 3, [.i to.I, .i best.I, .i left.I, .i (o.L.length + 1 : Nat), .i n.I, .l r.L, .i (toR r.L (pickI r.L (qE n.I r.L to.I best.I) left.I.toNat v.I t.I i.I.toNat (r.L.length - i.I.toNat))), .i (tmR r.L (pickI r.L (qE n.I r.L to.I best.I) left.I.toNat v.I t.I i.I.toNat (r.L.length - i.I.toNat)) t.I), .l (o.L ++ [hopR r.L (pickI r.L (qE n.I r.L to.I best.I) left.I.toNat v.I t.I i.I.toNat (r.L.length - i.I.toNat)) t.I])]))
        (.leaf (.exit 4, [.i 1, .i to.I, .i best.I, .i left.I, .i o.L.length, .i n.I, .l r.L, .i v.I, .i t.I, .l o.L])))
  | _ => .fail
def G24 (ds : List D) : T (List D) := match ds with
  | [n, r, v, t, to] => .need (yes (netB n.I r.L = true ∧ (0 ≤ v.I ∧ v.I < n.I) ∧ (0 ≤ t.I ∧ t.I ≤ 100000) ∧ (0 ≤ to.I ∧ to.I < n.I) ∧ 0 ≤ docA n.I r.L v.I t.I to.I))
      (.ite (docW n.I r.L v.I t.I to.I).isEmpty (.leaf [.i 0]) (.leaf [.i 1, .i (docW n.I r.L v.I t.I to.I).length, .l (docW n.I r.L v.I t.I to.I)]))
  | _ => .fail
def G24_3 (ds : List D) : T (Ex × List D) := match ds with
  | [v, t, to, best, left, n, r] => .need (yes (netB n.I r.L = true ∧ (0 ≤ left.I ∧ left.I ≤ 1000) ∧ (0 ≤ v.I ∧ v.I < n.I) ∧ (0 ≤ t.I ∧ t.I ≤ 100000) ∧ (0 ≤ to.I ∧ to.I < n.I) ∧ comesR n.I r.L v.I t.I to.I best.I left.I.toNat))
      (.leaf (.exit 0, [.i v.I, .i t.I, .i to.I, .i best.I, .i (hopsR n.I r.L v.I t.I to.I best.I left.I.toNat), .i n.I, .l r.L]))
  | _ => .fail
def G24_7 (ds : List D) : T (Ex × List D) := match ds with
  | [j, to, best, left, v, t, n, r] => .need (yes (j.I = 0 ∧ okWay n.I left.I v.I t.I to.I r.L))
      (.ite (wayO n.I r.L to.I best.I left.I.toNat v.I t.I).isEmpty (.leaf (.exit 2, [.i 0])) (.leaf (.exit 2, [.i 1, .i (wayO n.I r.L to.I best.I left.I.toNat v.I t.I).length, .l (wayO n.I r.L to.I best.I left.I.toNat v.I t.I)])))
  | [j, to, best, left, m, v, t, n, r, o] => .need (yes (j.I = 1 ∧ okWay n.I left.I v.I t.I to.I r.L ∧ m.I = o.L.length ∧ m.I + left.I ≤ 1000 ∧ 0 < m.I))
      (.leaf (.exit 2, [.i 1, .i (o.L ++ wayO n.I r.L to.I best.I left.I.toNat v.I t.I).length, .l (o.L ++ wayO n.I r.L to.I best.I left.I.toNat v.I t.I)]))
  | _ => .fail
def G24_10 (ds : List D) : T (Ex × List D) := match ds with
  | [j, to, best, left, v, t, i, n, r] => .need (yes (j.I = 0 ∧ okWay n.I left.I v.I t.I to.I r.L ∧ 1 ≤ left.I ∧ 0 ≤ i.I ∧ i.I ≤ r.L.length))
      (.ite (pickB r.L (qR n.I r.L to.I best.I) (left.I.toNat - 1) v.I t.I i.I.toNat (r.L.length - i.I.toNat))
        (.leaf (.exit 4, [.i 0, .i to.I, .i best.I, .i left.I, .i 1, .i (toR r.L (pickI r.L (qR n.I r.L to.I best.I) (left.I.toNat - 1) v.I t.I i.I.toNat (r.L.length - i.I.toNat))), .i (tmR r.L (pickI r.L (qR n.I r.L to.I best.I) (left.I.toNat - 1) v.I t.I i.I.toNat (r.L.length - i.I.toNat)) t.I), .i n.I, .l r.L, .l [hopR r.L (pickI r.L (qR n.I r.L to.I best.I) (left.I.toNat - 1) v.I t.I i.I.toNat (r.L.length - i.I.toNat)) t.I]]))
        (.leaf (.exit 4, [.i 1, .i to.I, .i best.I, .i left.I, .i v.I, .i t.I, .i n.I, .l r.L])))
  | [j, to, best, left, m, v, t, i, n, r, o] => .need (yes (j.I = 1 ∧ okWay n.I left.I v.I t.I to.I r.L ∧ 1 ≤ left.I ∧ (0 ≤ i.I ∧ i.I ≤ r.L.length) ∧ m.I = o.L.length ∧ m.I ≤ 1000))
      (.ite (pickB r.L (qR n.I r.L to.I best.I) (left.I.toNat - 1) v.I t.I i.I.toNat (r.L.length - i.I.toNat))
        (.leaf (.exit 4, [.i 0, .i to.I, .i best.I, .i left.I, .i (o.L.length + 1 : Nat), .i (toR r.L (pickI r.L (qR n.I r.L to.I best.I) (left.I.toNat - 1) v.I t.I i.I.toNat (r.L.length - i.I.toNat))), .i (tmR r.L (pickI r.L (qR n.I r.L to.I best.I) (left.I.toNat - 1) v.I t.I i.I.toNat (r.L.length - i.I.toNat)) t.I), .i n.I, .l r.L, .l (o.L ++ [hopR r.L (pickI r.L (qR n.I r.L to.I best.I) (left.I.toNat - 1) v.I t.I i.I.toNat (r.L.length - i.I.toNat)) t.I])]))
        (.leaf (.exit 4, [.i 0, .i to.I, .i best.I, .i left.I, .i o.L.length, .i v.I, .i t.I, .i n.I, .l r.L, .l o.L])))
  | _ => .fail
end
end Go.Proofs.Ytgmefblkmidglaa

namespace Go.Proofs.Ytgmefblkmidglaa
open Go.Lite
set_option linter.unusedVariables false
/-- A step of exact hops. -/
structure ExStep (E : Ed) (n : Nat) (x x' : Nat → Int) : Prop where
  le : ∀ j, j < E.m → x (E.fr j).toNat < INF → x' (E.to j).toNat ≤ E.fn j (x (E.fr j).toNat)
  at' : ∀ u, u < n → x' u = INF ∨ ∃ j, j < E.m ∧ x (E.fr j).toNat < INF ∧ (E.to j).toNat = u ∧ x' u = E.fn j (x (E.fr j).toNat)
/-- A step of hops that keeps what there is. -/
structure MoStep (E : Ed) (n : Nat) (x x' : Nat → Int) : Prop where
  le0 : ∀ u, x' u ≤ x u
  le : ∀ j, j < E.m → x (E.fr j).toNat < INF → x' (E.to j).toNat ≤ E.fn j (x (E.fr j).toNat)
  at' : ∀ u, u < n → x' u = x u ∨ ∃ j, j < E.m ∧ x (E.fr j).toNat < INF ∧ (E.to j).toNat = u ∧ x' u = E.fn j (x (E.fr j).toNat)
section
variable {E : Ed} {n : Nat} {H : Int}
theorem chain_le (hE : E.OK n H) {X Y : Nat → Nat → Int} {K : Nat} (h0 : ∀ u, u < n → Y 0 u ≤ X 0 u) (hI : ∀ k u, k ≤ K → u < n → Y k u ≤ INF) (hX : ∀ k, k < K → ExStep E n (X k) (X (k + 1))) (hY : ∀ k, k < K → MoStep E n (Y k) (Y (k + 1))) :
    ∀ k, k ≤ K → ∀ j, j ≤ k → ∀ u, u < n → Y k u ≤ X j u
  | 0, _, j, hj, u, hu => by obtain rfl : j = 0 := by omega
                             exact h0 u hu
  | k + 1, hk, j, hj, u, hu => by
    by_cases e : j = k + 1
    · subst e
      rcases (hX k (by omega)).at' u hu with h | ⟨i, h1, h2, h3, h4⟩
      · rw [h]; exact hI _ _ hk hu
      · rw [h4, ← h3]
        have hf := hE.fr i h1
        have ih := chain_le hE h0 hI hX hY k (by omega) k (Nat.le_refl _) (E.fr i).toNat (by omega)
        exact Int.le_trans ((hY k (by omega)).le i h1 (by omega)) (hE.mono i h1 _ _ ih)
    · exact Int.le_trans ((hY k (by omega)).le0 u) (chain_le hE h0 hI hX hY k (by omega) j (by omega) u hu)
theorem chain_at (hE : E.OK n H) {X Y : Nat → Nat → Int} {K : Nat} (h0 : ∀ u, u < n → Y 0 u = X 0 u) (hI : ∀ k u, k ≤ K → u < n → Y k u ≤ INF) (hX : ∀ k, k < K → ExStep E n (X k) (X (k + 1))) (hY : ∀ k, k < K → MoStep E n (Y k) (Y (k + 1))) :
    ∀ k, k ≤ K → ∀ u, u < n → ∃ j, j ≤ k ∧ X j u = Y k u
  | 0, _, u, hu => ⟨0, Nat.le_refl _, (h0 u hu).symm⟩
  | k + 1, hk, u, hu => by
    rcases (hY k (by omega)).at' u hu with h | ⟨i, h1, h2, h3, h4⟩
    · obtain ⟨j, h5, h6⟩ := chain_at hE h0 hI hX hY k (by omega) u hu
      exact ⟨j, by omega, by rw [h]; exact h6⟩
    · have hf := hE.fr i h1
      obtain ⟨j, h5, h6⟩ := chain_at hE h0 hI hX hY k (by omega) (E.fr i).toNat (by omega)
      refine ⟨j + 1, by omega, Int.le_antisymm ?_ (chain_le hE (fun u hu => by rw [h0 u hu]; exact Int.le_refl _) hI hX hY (k + 1) hk (j + 1) (by omega) u hu)⟩
      rw [h4, ← h3, ← h6]
      exact (hX j (by omega)).le i h1 (by omega)
theorem chain_walk (hE : E.OK n H) {X : Nat → Nat → Int} {v t : Int} {K : Nat} (h0 : ∀ u, u < n → X 0 u < INF → (u : Int) = v ∧ X 0 u = t) (hX : ∀ k, k < K → ExStep E n (X k) (X (k + 1))) :
    ∀ k, k ≤ K → ∀ u, u < n → X k u < INF → Walk E v t u (X k u)
  | 0, _, u, hu, hf => by
    obtain ⟨h1, h2⟩ := h0 u hu hf
    rw [h1, h2]; exact .here
  | k + 1, hk, u, hu, hf => by
    rcases (hX k (by omega)).at' u hu with h | ⟨i, h1, h2, h3, h4⟩
    · omega
    · have h5 := hE.fr i h1
      have h6 := hE.to i h1
      have ih := chain_walk hE h0 hX k (by omega) (E.fr i).toNat (by omega) h2
      rw [show (((E.fr i).toNat : Nat) : Int) = E.fr i by omega] at ih
      rw [h4, show (u : Int) = E.to i by omega]
      exact .step ih h1
theorem chain_first (hE : E.OK n H) {X X' : Nat → Nat → Int} {v t : Int} {i K : Nat} (hi : i < E.m) (hv : E.fr i = v) (ht : t < INF) (h0 : X 0 v.toNat = t) (h0' : ∀ u, u < n → X' 0 u = if u = (E.to i).toNat then E.fn i t else INF) (hI : ∀ k u, k ≤ K → u < n → X k u ≤ INF)
    (hX : ∀ k, k < K → ExStep E n (X k) (X (k + 1))) (hX' : ∀ k, k < K → ExStep E n (X' k) (X' (k + 1))) : ∀ k, k < K → ∀ u, u < n → X (k + 1) u ≤ X' k u
  | 0, hk, u, hu => by
    rw [h0' u hu]
    split
    · rename_i e
      rw [e]
      have := (hX 0 hk).le i hi (by rw [hv, h0]; exact ht)
      rwa [hv, h0] at this
    · exact hI _ _ (by omega) hu
  | k + 1, hk, u, hu => by
    rcases (hX' k (by omega)).at' u hu with h | ⟨j, h1, h2, h3, h4⟩
    · rw [h]; exact hI _ _ (by omega) hu
    · have hf := hE.fr j h1
      have ih := chain_first hE hi hv ht h0 h0' hI hX hX' k (by omega) (E.fr j).toNat (by omega)
      rw [h4, ← h3]
      exact Int.le_trans ((hX (k + 1) hk).le j h1 (by omega)) (hE.mono j h1 _ _ ih)
theorem walk_trans {v0 t0 v t w s : Int} (h : Walk E v0 t0 v t) (h' : Walk E v t w s) : Walk E v0 t0 w s := by
  induction h' with
  | here => exact h
  | step _ hj ih => exact .step ih hj
end

/-! ### The networks' hops are such steps -/
theorem ex1_spec {n K : Int} {a x : List (List D)} {c : List D} (hc : roadB n c = true) (hK : 0 ≤ K ∧ K ≤ 1000) (ha : okEx n K a) (hx : okEx n (K + 1) x) :
    (∀ u, rg (ex1 c a x) u ≤ rg x u) ∧ (rg a (ix c 0).toNat < INF → rg (ex1 c a x) (ix c 1).toNat ≤ entW c (rg a (ix c 0).toNat) + ix c 2) ∧
      ∀ u, rg (ex1 c a x) u = rg x u ∨ (rg a (ix c 0).toNat < INF ∧ (ix c 1).toNat = u ∧ rg (ex1 c a x) u = entW c (rg a (ix c 0).toNat) + ix c 2) := by
  obtain ⟨h1, h2, h3, -, -⟩ := road_parts hc
  obtain ⟨e1, e2, -⟩ := entW_parts hc
  have hxl := hx.1
  have hI : INF = 9223372036854775807 := rfl
  unfold ex1
  by_cases c1 : rg a (ix c 0).toNat < 9223372036854775807
  · rw [if_pos c1]
    have hrs := fun z u => rg_rs (R := x) (j := (ix c 1).toNat) (by omega) z u
    refine ⟨fun u => ?_, fun _ => ?_, fun u => ?_⟩
    · rw [hrs]
      by_cases e : u = (ix c 1).toNat
      · rw [if_pos e, e]; split <;> omega
      · rw [if_neg e]; exact Int.le_refl _
    · rw [hrs, if_pos rfl]; split <;> omega
    · rw [hrs]
      by_cases e : u = (ix c 1).toNat
      · rw [if_pos e]
        split
        · exact .inr ⟨c1, e.symm, rfl⟩
        · rw [e]; exact .inl rfl
      · rw [if_neg e]; exact .inl rfl
  · rw [if_neg c1]
    exact ⟨fun u => Int.le_refl _, fun h => absurd h c1, fun u => .inl rfl⟩
theorem exs_spec {n K : Int} {r a : List (List D)} (hN : netB n r = true) (hK : 0 ≤ K ∧ K ≤ 1000) (ha : okEx n K a) : ∀ (m i : Nat) (x : List (List D)), i + m ≤ r.length → okEx n (K + 1) x →
    (∀ u, rg (exF r a i m x) u ≤ rg x u) ∧ (∀ j, i ≤ j → j < i + m → rg a ((edR r).fr j).toNat < INF → rg (exF r a i m x) ((edR r).to j).toNat ≤ (edR r).fn j (rg a ((edR r).fr j).toNat)) ∧
      ∀ u, rg (exF r a i m x) u = rg x u ∨ ∃ j, j < r.length ∧ rg a ((edR r).fr j).toNat < INF ∧ ((edR r).to j).toNat = u ∧ rg (exF r a i m x) u = (edR r).fn j (rg a ((edR r).fr j).toNat)
  | 0, i, x, _, _ => ⟨fun u => Int.le_refl _, fun j h1 h2 => by omega, fun u => .inl rfl⟩
  | m + 1, i, x, hm, hx => by
    have hR := (net_parts hN).2.2 i (by omega)
    obtain ⟨a1, a2, a3⟩ := ex1_spec hR hK ha hx
    obtain ⟨b1, b2, b3⟩ := exs_spec hN hK ha m (i + 1) (ex1 (r.getD i []) a x) (by omega) (ex_ok hR hK.1 ha hx)
    simp only [exF]
    refine ⟨fun u => Int.le_trans (b1 u) (a1 u), fun j h1 h2 h3 => ?_, fun u => ?_⟩
    · by_cases e : j = i
      · subst e
        exact Int.le_trans (b1 _) (a2 h3)
      · exact b2 j (by omega) (by omega) h3
    · rcases b3 u with h | h
      · rw [h]
        rcases a3 u with h' | ⟨h4, h5, h6⟩
        · exact .inl h'
        · exact .inr ⟨i, by omega, h4, h5, h6⟩
      · exact .inr h
theorem none_rg' {n : Int} {u : Nat} (hu : u < n.toNat) : rg (noneL n) u = INF := rg_rep hu
theorem exs_step {n K : Int} {r a : List (List D)} (hN : netB n r = true) (hK : 0 ≤ K ∧ K ≤ 1000) (ha : okEx n K a) : ExStep (edR r) n.toNat (rg a) (rg (exF r a 0 r.length (noneL n))) := by
  obtain ⟨p1, p2, p3⟩ := net_parts hN
  obtain ⟨a1, a2, a3⟩ := exs_spec hN hK ha r.length 0 (noneL n) (by omega) (none_ok (by omega) (by omega))
  refine ⟨fun j hj h => a2 j (Nat.zero_le _) (by have : j < r.length := hj; omega) h, fun u hu => ?_⟩
  rcases a3 u with h | h
  · exact .inl (h.trans (none_rg' hu))
  · exact .inr h
theorem hops_step {n K : Int} {r a : List (List D)} (hN : netB n r = true) (hK : 0 ≤ K ∧ K ≤ 1000) (ha : okAt n K a) : MoStep (edR r) n.toNat (fun u => cv (rg a u)) (fun u => cv (rg (hopF r a 0 r.length a) u)) := by
  obtain ⟨a1, a2, a3⟩ := hops_spec hN hK ha r.length 0 a (by omega) (at_mono ha (by omega))
  have hlt : ∀ u, cv (rg a u) < INF → ¬ rg a u < 0 ∧ cv (rg a u) = rg a u := fun u h => by
    unfold cv at h ⊢
    split at h
    · omega
    · rename_i c; rw [if_neg c]; exact ⟨c, rfl⟩
  refine ⟨a1, fun j hj h => ?_, fun u hu => ?_⟩
  · obtain ⟨h1, h2⟩ := hlt _ h
    rw [h2]
    exact a2 j (Nat.zero_le _) (by have : j < r.length := hj; omega) h1
  · rcases a3 u with h | ⟨j, h1, h2, h3, h4⟩
    · exact .inl (by simp only [h])
    · refine .inr ⟨j, h1, ?_, h3, ?_⟩
      · have hub := (ha.2 ((edR r).fr j).toNat).2
        have hI : INF = 9223372036854775807 := rfl
        unfold cv
        rw [if_neg h2]
        omega
      · simp only [h4]
        have e1 : cv (rg a ((edR r).fr j).toNat) = rg a ((edR r).fr j).toNat := by unfold cv; rw [if_neg h2]
        rw [e1]
        have hup := (edR_ok hN).up j h1 (rg a ((edR r).fr j).toNat)
        have hnn : ¬ (edR r).fn j (rg a ((edR r).fr j).toNat) < 0 := by omega
        unfold cv
        exact if_neg hnn
theorem exact_succ {n : Int} {r : List (List D)} : ∀ (k : Nat) (a : List (List D)), exactF n r (k + 1) a = exF r (exactF n r k a) 0 r.length (noneL n)
  | 0, _ => rfl
  | k + 1, a => exact_succ k (exF r a 0 r.length (noneL n))
theorem reach_succ {r : List (List D)} : ∀ (k : Nat) (a : List (List D)), reachF r (k + 1) a = hopF r (reachF r k a) 0 r.length (reachF r k a)
  | 0, _ => rfl
  | k + 1, a => reach_succ k (hopF r a 0 r.length a)
theorem reach_ok {n : Int} {r : List (List D)} (hN : netB n r = true) : ∀ (m : Nat) (k : Int) (a : List (List D)), 0 ≤ k → okAt n k a → okAt n (k + m) (reachF r m a)
  | 0, k, a, _, h => by simpa [reachF] using h
  | m + 1, k, a, hk, h => by
    have := reach_ok hN m (k + 1) (hopF r a 0 r.length a) (by omega) (hops_ok hN hk h r.length 0 a (by omega) (at_mono h (by omega)))
    rw [show k + ((m + 1 : Nat) : Int) = k + 1 + m by omega]
    exact this
section
variable {n : Int} {r : List (List D)} {v t : Int}
def xE (n : Int) (r : List (List D)) (v t : Int) (k u : Nat) : Int := rg (exactF n r k (startE n v t)) u
def yR (n : Int) (r : List (List D)) (v t : Int) (k u : Nat) : Int := cv (rg (reachF r k (beginF n v t)) u)
theorem xE_ok (hN : netB n r = true) (hv : 0 ≤ v ∧ v < n) (ht : 0 ≤ t ∧ t ≤ 1099511627776) (k : Nat) : okEx n k (exactF n r k (startE n v t)) := by
  have hn := (net_parts hN).1
  have := exact_ok hN (by omega) k 0 _ (Int.le_refl _) (startE_ok (by omega) hv ht)
  rwa [Int.zero_add] at this
theorem yR_ok (hN : netB n r = true) (hv : 0 ≤ v ∧ v < n) (ht : 0 ≤ t ∧ t ≤ 1099511627776) (k : Nat) : okAt n k (reachF r k (beginF n v t)) := by
  have hn := (net_parts hN).1
  have := reach_ok hN k 0 _ (Int.le_refl _) (begin_ok (by omega) hv ht)
  rwa [Int.zero_add] at this
theorem xE_step (hN : netB n r = true) (hv : 0 ≤ v ∧ v < n) (ht : 0 ≤ t ∧ t ≤ 1099511627776) {k : Nat} (hk : k ≤ 1000) : ExStep (edR r) n.toNat (xE n r v t k) (xE n r v t (k + 1)) := by
  have := exs_step hN (K := k) (by omega) (xE_ok hN hv ht k)
  rw [← exact_succ] at this
  exact this
theorem yR_step (hN : netB n r = true) (hv : 0 ≤ v ∧ v < n) (ht : 0 ≤ t ∧ t ≤ 1099511627776) {k : Nat} (hk : k ≤ 1000) : MoStep (edR r) n.toNat (yR n r v t k) (yR n r v t (k + 1)) := by
  have := hops_step hN (K := k) (by omega) (yR_ok hN hv ht k)
  rw [← reach_succ] at this
  exact this
theorem xE_le (hN : netB n r = true) (hv : 0 ≤ v ∧ v < n) (ht : 0 ≤ t ∧ t ≤ 1099511627776) {k : Nat} (hk : k ≤ 1001) (u : Nat) : xE n r v t k u ≤ INF ∧ 0 ≤ xE n r v t k u := by
  have h := (xE_ok hN hv ht k).2 u
  have hI : INF = 9223372036854775807 := rfl
  unfold xE
  omega
theorem yR_le (hN : netB n r = true) (hv : 0 ≤ v ∧ v < n) (ht : 0 ≤ t ∧ t ≤ 1099511627776) {k : Nat} (hk : k ≤ 1001) (u : Nat) : yR n r v t k u ≤ INF := by
  have h := (yR_ok hN hv ht k).2 u
  have hI : INF = 9223372036854775807 := rfl
  unfold yR cv
  split <;> omega
theorem xE_zero (hv : 0 ≤ v ∧ v < n) {u : Nat} (hu : u < n.toNat) : xE n r v t 0 u = if u = v.toNat then t else INF := by
  show rg (startE n v t) u = _
  unfold startE
  rw [rg_rs (by unfold noneL; simp; omega), none_rg' hu]
theorem yR_zero (hv : 0 ≤ v ∧ v < n) (ht : 0 ≤ t) {u : Nat} (hu : u < n.toNat) : yR n r v t 0 u = xE n r v t 0 u := by
  rw [xE_zero hv hu]
  show cv (rg (beginF n v t) u) = _
  unfold beginF cv
  rw [rg_rs (by simp; omega), rg_rep hu]
  by_cases e : u = v.toNat
  · rw [if_pos e, if_pos e, if_neg (by omega)]
  · rw [if_neg e, if_neg e, if_pos (by omega)]
theorem yR_xE (hN : netB n r = true) (hv : 0 ≤ v ∧ v < n) (ht : 0 ≤ t ∧ t ≤ 1099511627776) {k j : Nat} (hk : k ≤ 1000) (hj : j ≤ k) {u : Nat} (hu : u < n.toNat) : yR n r v t k u ≤ xE n r v t j u :=
  chain_le (X := xE n r v t) (Y := yR n r v t) (edR_ok hN) (K := 1000) (fun u hu => by rw [yR_zero hv ht.1 hu]; exact Int.le_refl _) (fun k u hk _ => yR_le hN hv ht (by omega) u) (fun k hk => xE_step hN hv ht (by omega)) (fun k hk => yR_step hN hv ht (by omega)) k hk j hj u hu
theorem yR_at (hN : netB n r = true) (hv : 0 ≤ v ∧ v < n) (ht : 0 ≤ t ∧ t ≤ 1099511627776) {k : Nat} (hk : k ≤ 1000) {u : Nat} (hu : u < n.toNat) : ∃ j, j ≤ k ∧ xE n r v t j u = yR n r v t k u :=
  chain_at (X := xE n r v t) (Y := yR n r v t) (edR_ok hN) (K := 1000) (fun u hu => yR_zero hv ht.1 hu) (fun k u hk _ => yR_le hN hv ht (by omega) u) (fun k hk => xE_step hN hv ht (by omega)) (fun k hk => yR_step hN hv ht (by omega)) k hk u hu
theorem xE_walk (hN : netB n r = true) (hv : 0 ≤ v ∧ v < n) (ht : 0 ≤ t ∧ t ≤ 1099511627776) {k : Nat} (hk : k ≤ 1000) {u : Nat} (hu : u < n.toNat) (hf : xE n r v t k u < INF) : Walk (edR r) v t u (xE n r v t k u) :=
  chain_walk (X := xE n r v t) (edR_ok hN) (K := 1000) (fun u hu h => by
    rw [xE_zero hv hu] at h ⊢
    split at h
    · rename_i e; rw [if_pos e]; exact ⟨by omega, rfl⟩
    · omega) (fun k hk => xE_step hN hv ht (by omega)) k hk u hu hf
theorem xE_first (hN : netB n r = true) (hv : 0 ≤ v ∧ v < n) (ht : 0 ≤ t ∧ t ≤ 1099511627776) {i k : Nat} (hi : i < r.length) (hfr : ix (r.getD i []) 0 = v) (hk : k < 1000) {u : Nat} (hu : u < n.toNat) (ht' : tmR r i t ≤ 1099511627776) : xE n r v t (k + 1) u ≤ xE n r (toR r i) (tmR r i t) k u := by
  have hto : 0 ≤ toR r i ∧ toR r i < (n.toNat : Int) := (edR_ok hN).to i hi
  have hup : t < tmR r i t := (edR_ok hN).up i hi t
  have p1 := (net_parts hN).1
  have hI : INF = 9223372036854775807 := rfl
  exact chain_first (X := xE n r v t) (X' := xE n r (toR r i) (tmR r i t)) (edR_ok hN) (K := 1000) (i := i) hi hfr (by omega) (by rw [xE_zero hv (by omega), if_pos rfl]) (fun u hu => xE_zero (by omega) hu) (fun k u hk _ => (xE_le hN hv ht (by omega) u).1)
    (fun k hk => xE_step hN hv ht (by omega)) (fun k hk => xE_step hN (by omega) (by omega) (by omega)) k hk u hu
/-- With at most so many hops one comes in time, iff with exactly so many of fewer ones. -/
theorem qR_iff (hN : netB n r = true) (hv : 0 ≤ v ∧ v < n) (ht : 0 ≤ t ∧ t ≤ 1099511627776) {to best : Int} (hto : 0 ≤ to ∧ to < n) (hb : 0 ≤ best ∧ best < INF) (hlo : ∀ j, j ≤ 1000 → best ≤ xE n r v t j to.toNat) {l : Nat} (hl : l ≤ 1000) : qR n r to best l v t = true ↔ ∃ j, j ≤ l ∧ qE n r to best j v t = true := by
  unfold qR qE
  have hu : to.toNat < n.toNat := by omega
  have hI : INF = 9223372036854775807 := rfl
  have hc : (rg (reachF r l (beginF n v t)) to.toNat == best) = true ↔ yR n r v t l to.toNat = best := by
    have h := (yR_ok hN hv ht l).2 to.toNat
    unfold yR cv
    rw [beq_iff_eq]
    split <;> omega
  rw [hc]
  constructor
  · intro h
    obtain ⟨j, h1, h2⟩ := yR_at hN hv ht hl hu
    exact ⟨j, h1, by rw [beq_iff_eq]; exact h2.trans h⟩
  · rintro ⟨j, h1, h2⟩
    rw [beq_iff_eq] at h2
    have h3 := yR_xE hN hv ht hl h1 hu
    obtain ⟨j', h4, h5⟩ := yR_at hN hv ht hl hu
    have := hlo j' (by omega)
    have h2 : xE n r v t j to.toNat = best := h2
    omega
end

/-! ### Seeking -/
theorem road_congr {p q : Nat → Bool} : ∀ (m i : Nat), (∀ j, i ≤ j → j < i + m → p j = q j) → roadF p i m = roadF q i m
  | 0, _, _ => rfl
  | m + 1, i, h => by
    simp only [roadF]
    rw [h i (Nat.le_refl _) (by omega), road_congr m (i + 1) fun j h1 h2 => h j (by omega) (by omega)]
theorem road_some {p : Nat → Bool} : ∀ (m i : Nat) {x : Nat}, roadF p i m = some x → i ≤ x ∧ x < i + m ∧ p x = true
  | 0, _, _, h => by cases h
  | m + 1, i, x, h => by
    simp only [roadF] at h
    split at h
    · cases h; rename_i hp; exact ⟨Nat.le_refl _, by omega, hp⟩
    · have := road_some m (i + 1) h
      exact ⟨by omega, by omega, this.2.2⟩
theorem seek_congr {p q : Nat → Bool} : ∀ (f k : Nat), (∀ j, j < k → p j = false) → (∀ l, l ≤ k + f → (q l = true ↔ ∃ j, j ≤ l ∧ p j = true)) → seekF p f k = seekF q f k
  | 0, _, _, _ => rfl
  | f + 1, k, h1, h2 => by
    have hpq : p k = q k := by
      rw [Bool.eq_iff_iff, h2 k (by omega)]
      refine ⟨fun h => ⟨k, Nat.le_refl _, h⟩, fun ⟨j, h3, h4⟩ => ?_⟩
      by_cases e : j = k
      · rw [← e]; exact h4
      · rw [h1 j (by omega)] at h4; cases h4
    simp only [seekF, hpq]
    split
    · rfl
    · rename_i hq
      refine seek_congr f (k + 1) (fun j hj => ?_) fun l hl => h2 l (by omega)
      by_cases e : j = k
      · rw [e, hpq]; simpa using hq
      · exact h1 j (by omega)
theorem seek_spec {p : Nat → Bool} : ∀ (f k : Nat), (∃ l, k ≤ l ∧ l ≤ k + f ∧ p l = true) → p (seekF p f k) = true ∧ k ≤ seekF p f k ∧ seekF p f k ≤ k + f ∧ ∀ j, k ≤ j → j < seekF p f k → p j = false
  | 0, k, ⟨l, h1, h2, h3⟩ => by
    obtain rfl : l = k := by omega
    exact ⟨h3, Nat.le_refl _, Nat.le_refl _, fun j h4 h5 => by simp only [seekF] at h5; omega⟩
  | f + 1, k, ⟨l, h1, h2, h3⟩ => by
    simp only [seekF]
    split
    · rename_i hp
      exact ⟨hp, Nat.le_refl _, by omega, fun j h4 h5 => by omega⟩
    · rename_i hp
      have hlk : l ≠ k := fun e => hp (e ▸ h3)
      obtain ⟨a1, a2, a3, a4⟩ := seek_spec f (k + 1) ⟨l, by omega, by omega, h3⟩
      refine ⟨a1, by omega, by omega, fun j h4 h5 => ?_⟩
      by_cases e : j = k
      · rw [e]; simpa using hp
      · exact a4 j (by omega) h5
/-- The ways are the same. -/
theorem same_way {n : Int} {r : List (List D)} {v0 t0 to best : Int} {d : Nat → Int} (hN : netB n r = true) (hL : Least (edR r) n.toNat v0 t0 d) (hto : 0 ≤ to ∧ to < n) (hb : 0 ≤ best ∧ best < INF) (hd : d to.toNat = best) :
    ∀ (l : Nat) (v t : Int), l ≤ 1000 → 0 ≤ v ∧ v < n → 0 ≤ t → t + 10000 * l ≤ 10100000 → Walk (edR r) v0 t0 v t → (∀ j, j < l → qE n r to best j v t = false) → wayF r (qE n r to best) l v t = wayF r (qR n r to best) l v t
  | 0, _, _, _, _, _, _, _, _ => rfl
  | l + 1, v, t, hl, hv, ht0, ht1, hW, hq => by
    have hlow : ∀ {v t : Int}, 0 ≤ v ∧ v < n → 0 ≤ t ∧ t ≤ 1099511627776 → Walk (edR r) v0 t0 v t → ∀ j, j ≤ 1000 → best ≤ xE n r v t j to.toNat := fun {v t} hv ht hW j hj => by
      by_cases hf : xE n r v t j to.toNat < INF
      · have := hL.2.2 _ _ (walk_trans hW (xE_walk hN hv ht hj (by omega) hf))
        rw [show (((to.toNat : Nat) : Int)).toNat = to.toNat by omega] at this
        omega
      · omega
    have hstep : ∀ i, i < r.length → ix (r.getD i []) 0 = v → (0 ≤ toR r i ∧ toR r i < n) ∧ (0 ≤ tmR r i t ∧ tmR r i t + 10000 * l ≤ 10100000) ∧ Walk (edR r) v0 t0 (toR r i) (tmR r i t) ∧ ∀ j, j < l → qE n r to best j (toR r i) (tmR r i t) = false := fun i hi hfr => by
      have hto' := (edR_ok hN).to i hi
      have hup := (edR_ok hN).up i hi t
      have hR := (net_parts hN).2.2 i hi
      have h1 := (road_parts hR).2.2.1
      have h2 := (entW_parts hR).2.1 t
      have h3 := (entW_parts hR).1 t
      have p1 := (net_parts hN).1
      have e2 : tmR r i t = entW (r.getD i []) t + ix (r.getD i []) 2 := rfl
      have ht2 : 0 ≤ tmR r i t ∧ tmR r i t + 10000 * l ≤ 10100000 := by rw [e2]; omega
      have hv2 : 0 ≤ toR r i ∧ toR r i < n := by
        show 0 ≤ (edR r).to i ∧ (edR r).to i < n
        omega
      have hW' : Walk (edR r) v0 t0 (toR r i) (tmR r i t) := .step (j := i) (by show Walk (edR r) v0 t0 (ix (r.getD i []) 0) t; rw [hfr]; exact hW) hi
      refine ⟨hv2, ht2, hW', fun j hj => ?_⟩
      rw [← Bool.not_eq_true]
      intro hqj
      have hqj : xE n r (toR r i) (tmR r i t) j to.toNat = best := by unfold qE at hqj; rw [beq_iff_eq] at hqj; exact hqj
      have h4 := xE_first (t := t) hN hv (by omega) hi hfr (k := j) (by omega) (u := to.toNat) (by omega) (by omega)
      have h5 := hlow hv (by omega) hW (j + 1) (by omega)
      have h6 : qE n r to best (j + 1) v t = true := by
        unfold qE
        rw [beq_iff_eq]
        show xE n r v t (j + 1) to.toNat = best
        omega
      rw [hq (j + 1) (by omega)] at h6
      cases h6
    simp only [wayF]
    have hroad : roadF (fun i => decide (ix (r.getD i []) 0 = v) && qE n r to best l (ix (r.getD i []) 1) (entW (r.getD i []) t + ix (r.getD i []) 2)) 0 r.length = roadF (fun i => decide (ix (r.getD i []) 0 = v) && qR n r to best l (ix (r.getD i []) 1) (entW (r.getD i []) t + ix (r.getD i []) 2)) 0 r.length :=
      road_congr _ _ fun i _ hi => by
        by_cases hfr : ix (r.getD i []) 0 = v
        · simp only [hfr, decide_true, Bool.true_and]
          obtain ⟨a1, a2, a3, a4⟩ := hstep i (by omega) hfr
          show qE n r to best l (toR r i) (tmR r i t) = qR n r to best l (toR r i) (tmR r i t)
          rw [Bool.eq_iff_iff, qR_iff hN a1 (by omega) hto hb (hlow a1 (by omega) a3) (by omega)]
          refine ⟨fun h => ⟨l, Nat.le_refl _, h⟩, fun ⟨j, h1, h2⟩ => ?_⟩
          by_cases e : j = l
          · rw [← e]; exact h2
          · rw [a4 j (by omega)] at h2; cases h2
        · simp only [hfr, decide_false, Bool.false_and]
    rw [← hroad]
    split
    · exact same_way hN hL hto hb hd l v t (by omega) hv ht0 (by omega) hW fun j hj => hq j (by omega)
    · rename_i i hi
      obtain ⟨-, h2, h3⟩ := road_some _ _ hi
      rw [Bool.and_eq_true, decide_eq_true_iff] at h3
      obtain ⟨a1, a2, a3, a4⟩ := hstep i (by omega) h3.1
      have := same_way hN hL hto hb hd l (toR r i) (tmR r i t) (by omega) a1 a2.1 a2.2 a3 a4
      unfold toR tmR at this
      rw [this]
/-- What the program finds is what the document says. -/
theorem ways_same {n : Int} {r : List (List D)} {v t to : Int} (hN : netB n r = true) (hv : 0 ≤ v ∧ v < n) (ht : 0 ≤ t ∧ t ≤ 100000) (hto : 0 ≤ to ∧ to < n) (hb : 0 ≤ bestF n r v t to) :
    docA n r v t to = bestF n r v t to ∧ comesE n r v t to (bestF n r v t to) 0 ∧ comesR n r v t to (bestF n r v t to) 0 ∧ docW n r v t to = progW n r v t to ∧ hopsE n r v t to (bestF n r v t to) 0 ≤ 1000 := by
  obtain ⟨p1, p2, p3⟩ := net_parts hN
  obtain ⟨s1, s2, s3⟩ := arr_same hN hv ht
  obtain ⟨o1, d, hL, hd⟩ := arr_ok hN hv ht
  have hA : docA n r v t to = bestF n r v t to := (s3 to.toNat (by omega)).symm
  have hub := (o1.2 to.toNat).2
  have hI : INF = 9223372036854775807 := rfl
  have hb2 : bestF n r v t to < INF := by unfold bestF; omega
  have hd' : d to.toNat = bestF n r v t to := by
    rw [← hd _ (by omega)]
    unfold cv bestF at *
    rw [if_neg (by omega)]
  have hlow : ∀ j, j ≤ 1000 → bestF n r v t to ≤ xE n r v t j to.toNat := fun j hj => by
    by_cases hf : xE n r v t j to.toNat < INF
    · have := hL.2.2 _ _ (xE_walk hN hv (by omega) hj (by omega) hf)
      rw [show (((to.toNat : Nat) : Int)).toNat = to.toNat by omega] at this
      omega
    · omega
  have hqR : qR n r to (bestF n r v t to) n.toNat v t = true := by
    unfold qR
    rw [beq_iff_eq]
    exact hA
  have hiff := fun {l : Nat} (hl : l ≤ 1000) => qR_iff hN hv (by omega) hto ⟨hb, hb2⟩ hlow hl
  obtain ⟨j, h1, h2⟩ := (hiff (by omega)).1 hqR
  have hcE : comesE n r v t to (bestF n r v t to) 0 := ⟨j, Nat.zero_le _, by omega, h2⟩
  obtain ⟨-, -, a3, a4⟩ := seek_spec (p := fun l => qE n r to (bestF n r v t to) l v t) (1000 - 0) 0 ⟨j, Nat.zero_le _, by omega, h2⟩
  have hh : hopsE n r v t to (bestF n r v t to) 0 = hopsR n r v t to (bestF n r v t to) 0 := seek_congr _ _ (fun j hj => by omega) fun l hl => hiff (by omega)
  refine ⟨hA, hcE, ⟨n.toNat, Nat.zero_le _, by omega, hqR⟩, ?_, by unfold hopsE; omega⟩
  unfold docW progW wayE wayO
  rw [hA, ← hh]
  have a5 : hopsE n r v t to (bestF n r v t to) 0 ≤ 1000 := by unfold hopsE; omega
  exact (same_way hN hL hto ⟨hb, hb2⟩ hd' _ v t a5 hv ht.1 (by omega) .here fun j hj => a4 j (Nat.zero_le _) hj).symm
end Go.Proofs.Ytgmefblkmidglaa

namespace Go.Proofs.Ytgmefblkmidglaa
open Go.Lite
theorem roundTK_head {C : Cfg} {tab : Tab} {f : FuncId} {b : Code} {k : Nat} {s : LSig} {j : D} {n : Int} {r : List D} (h : j.I = n) (hs : 2 ≤ s.head.length) : roundTK C tab f b k s (j :: r) = roundTK C tab f b k s (.i n :: r) := by
  obtain ⟨live, head, exits⟩ := s
  match head, hs with
  | a :: b :: c, _ => simp only [roundTK, roundTG, headL, headA, List.headD_cons, List.tail_cons, I_i, h]
theorem headA_head {hs : List Shp} {j : D} {n : Int} (r : List D) (h : j.I = n) (hl : 2 ≤ hs.length) : headA hs (j :: r) = headA hs (.i n :: r) := by
  match hs, hl with
  | a :: b :: c, _ => simp only [headA, List.headD_cons, List.tail_cons, I_i, h]
end Go.Proofs.Ytgmefblkmidglaa
