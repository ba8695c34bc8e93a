/-
  Ways: what the program and the document compute.
-/
import Derived.Test.YtgmefblkmidglaaResSigF
import Derived.Test.YtgmefblkmidglaaResWay
namespace Go.Proofs.Ytgmefblkmidglaa
open Go.Lite
noncomputable section
/-- The road that is taken next, of those from i on. -/
def pickF (r : List (List D)) (q : Nat → Int → Int → Bool) (l : Nat) (v t : Int) (i m : Nat) : Option Nat := roadF (fun i => decide (ix (r.getD i []) 0 = v) && q l (ix (r.getD i []) 1) (entW (r.getD i []) t + ix (r.getD i []) 2)) i m
def pickB (r : List (List D)) (q : Nat → Int → Int → Bool) (l : Nat) (v t : Int) (i m : Nat) : Bool := (pickF r q l v t i m).isSome
def pickI (r : List (List D)) (q : Nat → Int → Int → Bool) (l : Nat) (v t : Int) (i m : Nat) : Nat := (pickF r q l v t i m).getD 0
/-- Where one is after a road, when, and the hop. -/
def toR (r : List (List D)) (i : Nat) : Int := ix (r.getD i []) 1
def tmR (r : List (List D)) (i : Nat) (t : Int) : Int := entW (r.getD i []) t + ix (r.getD i []) 2
def hopR (r : List (List D)) (i : Nat) (t : Int) : List D := [.i i, .i (entW (r.getD i []) t)]
def okWay (n left v t to : Int) (r : List (List D)) : Prop := netB n r = true ∧ (0 ≤ left ∧ left ≤ 1000) ∧ (0 ≤ v ∧ v < n) ∧ (0 ≤ t ∧ t + 10000 * left ≤ 10100000) ∧ 0 ≤ to ∧ to < n
def hopsE (n : Int) (r : List (List D)) (v t to best : Int) (k : Nat) : Nat := seekF (fun l => qE n r to best l v t) (1000 - k) k
def hopsR (n : Int) (r : List (List D)) (v t to best : Int) (k : Nat) : Nat := seekF (fun l => qR n r to best l v t) (1000 - k) k
def comesE (n : Int) (r : List (List D)) (v t to best : Int) (k : Nat) : Prop := ∃ l, k ≤ l ∧ l ≤ 1000 ∧ qE n r to best l v t = true
def comesR (n : Int) (r : List (List D)) (v t to best : Int) (k : Nat) : Prop := ∃ l, k ≤ l ∧ l ≤ 1000 ∧ qR n r to best l v t = true
def wayE (n : Int) (r : List (List D)) (to best : Int) (l : Nat) (v t : Int) : List (List D) := wayF r (qE n r to best) l v t
def wayO (n : Int) (r : List (List D)) (to best : Int) (l : Nat) (v t : Int) : List (List D) := wayF r (qR n r to best) l v t
def bestF (n : Int) (r : List (List D)) (v t to : Int) : Int := rg (arrF n r v t) to.toNat
def progW (n : Int) (r : List (List D)) (v t to : Int) : List (List D) := wayE n r to (bestF n r v t to) (hopsE n r v t to (bestF n r v t to) 0) v t
def docA (n : Int) (r : List (List D)) (v t to : Int) : Int := rg (reachF r n.toNat (beginF n v t)) to.toNat
def docW (n : Int) (r : List (List D)) (v t to : Int) : List (List D) := wayO n r to (docA n r v t to) (hopsR n r v t to (docA n r v t to) 0) v t
def G23 (ds : List D) : T (List D) := match ds with
  | [n, r, v, t, to] => .ite (netB n.I r.L && nodeB n.I v.I t.I && nodeB n.I to.I 0)
      (.ite (decide (bestF n.I r.L v.I t.I to.I < 0)) (.leaf [.i 0, .i 0, .i 5])
        (.ite (progW n.I r.L v.I t.I to.I).isEmpty (.leaf [.i 0, .i (bestF n.I r.L v.I t.I to.I), .i 0])
          (.leaf [.i 1, .i (progW n.I r.L v.I t.I to.I).length, .i (bestF n.I r.L v.I t.I to.I), .i 0, .l (progW n.I r.L v.I t.I to.I)])))
      (.leaf [.i 0, .i 0, .i 2])
  | _ => .fail
def G23_8 (ds : List D) : T (Ex × List D) := match ds with
  | [to, best, left, n, r, v, t] => .need (yes (netB n.I r.L = true ∧ (0 ≤ left.I ∧ left.I ≤ 1000) ∧ (0 ≤ v.I ∧ v.I < n.I) ∧ (0 ≤ t.I ∧ t.I ≤ 100000) ∧ (0 ≤ to.I ∧ to.I < n.I) ∧ comesE n.I r.L v.I t.I to.I best.I left.I.toNat))
      (.leaf (.exit 0, [.i to.I, .i best.I, .i (hopsE n.I r.L v.I t.I to.I best.I left.I.toNat), .i n.I, .l r.L, .i v.I, .i t.I]))
  | _ => .fail
def G23_11 (ds : List D) : T (Ex × List D) := match ds with
  | [j, to, best, left, n, r, v, t] => .need (yes (j.I = 0 ∧ okWay n.I left.I v.I t.I to.I r.L))
      (.ite (wayE n.I r.L to.I best.I left.I.toNat v.I t.I).isEmpty (.leaf (.exit 2, [.i 0, .i best.I])) (.leaf (.exit 2, [.i 1, .i best.I, .i (wayE n.I r.L to.I best.I left.I.toNat v.I t.I).length, .l (wayE n.I r.L to.I best.I left.I.toNat v.I t.I)])))
  | [j, to, best, left, m, n, r, v, t, o] => .need (yes (j.I = 1 ∧ okWay n.I left.I v.I t.I to.I r.L ∧ m.I = o.L.length ∧ m.I + left.I ≤ 1000 ∧ 0 < m.I))
      (.leaf (.exit 2, [.i 1, .i best.I, .i (o.L ++ wayE n.I r.L to.I best.I left.I.toNat v.I t.I).length, .l (o.L ++ wayE n.I r.L to.I best.I left.I.toNat v.I t.I)]))
  | _ => .fail
def G23_14 (ds : List D) : T (Ex × List D) := match ds with
  | [j, to, best, left, r', q, i, n, r, v, t] => .need (yes (j.I = 0 ∧ okWay n.I (left.I + 1) v.I t.I to.I r.L ∧ 0 ≤ left.I ∧ r'.L = r.L ∧ q.I = r.L.length ∧ 0 ≤ i.I ∧ i.I ≤ r.L.length))
      (.ite (pickB r.L (qE n.I r.L to.I best.I) left.I.toNat v.I t.I i.I.toNat (r.L.length - i.I.toNat))
        (.leaf (.exit 3, [.i to.I, .i best.I, .i left.I, .i 1, .i n.I, .l r.L, .i (toR r.L (pickI r.L (qE n.I r.L to.I best.I) left.I.toNat v.I t.I i.I.toNat (r.L.length - i.I.toNat))), .i (tmR r.L (pickI r.L (qE n.I r.L to.I best.I) left.I.toNat v.I t.I i.I.toNat (r.L.length - i.I.toNat)) t.I), .l [hopR r.L (pickI r.L (qE n.I r.L to.I best.I) left.I.toNat v.I t.I i.I.toNat (r.L.length - i.I.toNat)) t.I]]))
        (.leaf (.exit 4, [.i 0, .i to.I, .i best.I, .i left.I, .i n.I, .l r.L, .i v.I, .i t.I])))
  | [j, to, best, left, m, r', q, i, n, r, v, t, o] => .need (yes (j.I = 1 ∧ okWay n.I (left.I + 1) v.I t.I to.I r.L ∧ 0 ≤ left.I ∧ r'.L = r.L ∧ q.I = r.L.length ∧ (0 ≤ i.I ∧ i.I ≤ r.L.length) ∧ m.I = o.L.length ∧ m.I ≤ 1000))
      (.ite (pickB r.L (qE n.I r.L to.I best.I) left.I.toNat v.I t.I i.I.toNat (r.L.length - i.I.toNat))
        (.leaf (.exit 3, [.i to.I, .i best.I, .i left.I, .i (o.L.length + 1 : Nat), .i n.I, .l r.L, .i (toR r.L (pickI r.L (qE n.I r.L to.I best.I) left.I.toNat v.I t.I i.I.toNat (r.L.length - i.I.toNat))), .i (tmR r.L (pickI r.L (qE n.I r.L to.I best.I) left.I.toNat v.I t.I i.I.toNat (r.L.length - i.I.toNat)) t.I), .l (o.L ++ [hopR r.L (pickI r.L (qE n.I r.L to.I best.I) left.I.toNat v.I t.I i.I.toNat (r.L.length - i.I.toNat)) t.I])]))
        (.leaf (.exit 4, [.i 1, .i to.I, .i best.I, .i left.I, .i o.L.length, .i n.I, .l r.L, .i v.I, .i t.I, .l o.L])))
  | _ => .fail
def G24 (ds : List D) : T (List D) := match ds with
  | [n, r, v, t, to] => .need (yes (netB n.I r.L = true ∧ (0 ≤ v.I ∧ v.I < n.I) ∧ (0 ≤ t.I ∧ t.I ≤ 100000) ∧ (0 ≤ to.I ∧ to.I < n.I) ∧ 0 ≤ docA n.I r.L v.I t.I to.I))
      (.ite (docW n.I r.L v.I t.I to.I).isEmpty (.leaf [.i 0]) (.leaf [.i 1, .i (docW n.I r.L v.I t.I to.I).length, .l (docW n.I r.L v.I t.I to.I)]))
  | _ => .fail
def G24_3 (ds : List D) : T (Ex × List D) := match ds with
  | [v, t, to, best, left, n, r] => .need (yes (netB n.I r.L = true ∧ (0 ≤ left.I ∧ left.I ≤ 1000) ∧ (0 ≤ v.I ∧ v.I < n.I) ∧ (0 ≤ t.I ∧ t.I ≤ 100000) ∧ (0 ≤ to.I ∧ to.I < n.I) ∧ comesR n.I r.L v.I t.I to.I best.I left.I.toNat))
      (.leaf (.exit 0, [.i v.I, .i t.I, .i to.I, .i best.I, .i (hopsR n.I r.L v.I t.I to.I best.I left.I.toNat), .i n.I, .l r.L]))
  | _ => .fail
def G24_7 (ds : List D) : T (Ex × List D) := match ds with
  | [j, to, best, left, v, t, n, r] => .need (yes (j.I = 0 ∧ okWay n.I left.I v.I t.I to.I r.L))
      (.ite (wayO n.I r.L to.I best.I left.I.toNat v.I t.I).isEmpty (.leaf (.exit 2, [.i 0])) (.leaf (.exit 2, [.i 1, .i (wayO n.I r.L to.I best.I left.I.toNat v.I t.I).length, .l (wayO n.I r.L to.I best.I left.I.toNat v.I t.I)])))
  | [j, to, best, left, m, v, t, n, r, o] => .need (yes (j.I = 1 ∧ okWay n.I left.I v.I t.I to.I r.L ∧ m.I = o.L.length ∧ m.I + left.I ≤ 1000 ∧ 0 < m.I))
      (.leaf (.exit 2, [.i 1, .i (o.L ++ wayO n.I r.L to.I best.I left.I.toNat v.I t.I).length, .l (o.L ++ wayO n.I r.L to.I best.I left.I.toNat v.I t.I)]))
  | _ => .fail
def G24_10 (ds : List D) : T (Ex × List D) := match ds with
  | [j, to, best, left, v, t, i, n, r] => .need (yes (j.I = 0 ∧ okWay n.I left.I v.I t.I to.I r.L ∧ 1 ≤ left.I ∧ 0 ≤ i.I ∧ i.I ≤ r.L.length))
      (.ite (pickB r.L (qR n.I r.L to.I best.I) (left.I.toNat - 1) v.I t.I i.I.toNat (r.L.length - i.I.toNat))
        (.leaf (.exit 4, [.i 0, .i to.I, .i best.I, .i left.I, .i 1, .i (toR r.L (pickI r.L (qR n.I r.L to.I best.I) (left.I.toNat - 1) v.I t.I i.I.toNat (r.L.length - i.I.toNat))), .i (tmR r.L (pickI r.L (qR n.I r.L to.I best.I) (left.I.toNat - 1) v.I t.I i.I.toNat (r.L.length - i.I.toNat)) t.I), .i n.I, .l r.L, .l [hopR r.L (pickI r.L (qR n.I r.L to.I best.I) (left.I.toNat - 1) v.I t.I i.I.toNat (r.L.length - i.I.toNat)) t.I]]))
        (.leaf (.exit 4, [.i 1, .i to.I, .i best.I, .i left.I, .i v.I, .i t.I, .i n.I, .l r.L])))
  | [j, to, best, left, m, v, t, i, n, r, o] => .need (yes (j.I = 1 ∧ okWay n.I left.I v.I t.I to.I r.L ∧ 1 ≤ left.I ∧ (0 ≤ i.I ∧ i.I ≤ r.L.length) ∧ m.I = o.L.length ∧ m.I ≤ 1000))
      (.ite (pickB r.L (qR n.I r.L to.I best.I) (left.I.toNat - 1) v.I t.I i.I.toNat (r.L.length - i.I.toNat))
        (.leaf (.exit 4, [.i 0, .i to.I, .i best.I, .i left.I, .i (o.L.length + 1 : Nat), .i (toR r.L (pickI r.L (qR n.I r.L to.I best.I) (left.I.toNat - 1) v.I t.I i.I.toNat (r.L.length - i.I.toNat))), .i (tmR r.L (pickI r.L (qR n.I r.L to.I best.I) (left.I.toNat - 1) v.I t.I i.I.toNat (r.L.length - i.I.toNat)) t.I), .i n.I, .l r.L, .l (o.L ++ [hopR r.L (pickI r.L (qR n.I r.L to.I best.I) (left.I.toNat - 1) v.I t.I i.I.toNat (r.L.length - i.I.toNat)) t.I])]))
        (.leaf (.exit 4, [.i 0, .i to.I, .i best.I, .i left.I, .i o.L.length, .i v.I, .i t.I, .i n.I, .l r.L, .l o.L])))
  | _ => .fail
end
end Go.Proofs.Ytgmefblkmidglaa
