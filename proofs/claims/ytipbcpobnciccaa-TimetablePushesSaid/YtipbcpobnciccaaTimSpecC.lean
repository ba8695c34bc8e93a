/-
  What the functions of earliest timetables compute.
-/
import Derived.Test.YtipbcpobnciccaaTimSigC
import Derived.Test.YtipbcpobnciccaaTimSpecB
namespace Go.Proofs.Ytipbcpobnciccaa
open Go.Lite
noncomputable section

/-! ### The document's raising -/
def refR (n : Int) (l t : List (List D)) : RSt := roundsR (allL n l) (n.toNat + 1) (t, [], 0)
def refOk (n : Int) (l t : List (List D)) : Bool := decide ((refR n l t).2.2 < 0) && (rg (refR n l t).1 0 == 0)
def zeros (n : Int) : List (List D) := List.replicate n.toNat [.i 0]

/-! ### Who raised whom -/
def backI (n : Int) (l b : List (List D)) (v : Int) : Int := if rg b v.toNat < 0 then (l.length : Int) - n + v else rg b v.toNat
def predI (n : Int) (l b : List (List D)) (v : Int) : Int := lkF l (backI n l b v).toNat
def walk (n : Int) (l b : List (List D)) : Nat → Int → Int
  | 0, v => v
  | k + 1, v => walk n l b k (predI n l b v)
/-- Steps back lead from moments to moments. -/
def backOk (n : Int) (l b : List (List D)) : Prop := goodL n l ∧ (b.length : Int) = n ∧ n ≤ l.length ∧ ∀ j : Nat, (j : Int) < n → -1 ≤ rg b j ∧ rg b j < l.length
def stepsTo (n : Int) (l b : List (List D)) (v e : Int) : Nat → Nat → Nat
  | k, 0 => k
  | k, f + 1 => if v = e then k else stepsTo n l b (predI n l b v) e (k + 1) f
/-- How many steps lead from a moment to another one. -/
def dist (n : Int) (l b : List (List D)) (v e : Int) : Nat := stepsTo n l b v e 0 501
def chainF (n : Int) (l b : List (List D)) : Nat → Int → List (List D)
  | 0, _ => []
  | k + 1, v => [.i (backI n l b v)] :: chainF n l b k (predI n l b v)
/-- The circle that a moment is in. -/
def circle (n : Int) (l b : List (List D)) (v : Int) : List (List D) := [.i (backI n l b v)] :: chainF n l b (dist n l b (predI n l b v) v) (predI n l b v)
def proofR (n : Int) (l : List (List D)) : List (List D) :=
  let s := pushR n l (zeros n)
  let c := circle n l s.2.1 (walk n l s.2.1 (n.toNat + 1) s.2.2)
  revR 0 c.length c
def reaches (n : Int) (l b : List (List D)) (v e : Int) : Prop := ∃ k : Nat, k ≤ 500 ∧ walk n l b k v = e

/-! ### The functions -/
def G69 (ds : List D) : T (List D) := match ds with
  | [n, l, m, t] => .need (yes (netP n.I l.L ∧ m.I = n.I ∧ (t.L.length : Int) = n.I ∧ bndR t.L 1099511627776)) (.leaf [.b (refOk n.I l.L t.L), .l (refR n.I l.L t.L).1])
  | _ => .fail
def G69_3 (ds : List D) : T (Ex × List D) := match ds with
  | [j, n, m, q, i, t, a] => .need (yes (j.I = 1 ∧ goodL n.I a.L ∧ m.I = n.I ∧ q.I = a.L.length ∧ 0 ≤ i.I ∧ i.I ≤ n.I + 1 ∧ (t.L.length : Int) = n.I ∧ room t.L (a.L.length * (n.I + 1 - i.I))))
      (.ite (decide ((roundsR a.L (n.I + 1 - i.I).toNat (t.L, [], 0)).2.2 < 0)) (.leaf (.ret, [.b (rg (roundsR a.L (n.I + 1 - i.I).toNat (t.L, [], 0)).1 0 == 0), .l (roundsR a.L (n.I + 1 - i.I).toNat (t.L, [], 0)).1]))
        (.leaf (.exit 0, [.l (roundsR a.L (n.I + 1 - i.I).toNat (t.L, [], 0)).1])))
  | _ => .fail
def G69_7 (ds : List D) : T (Ex × List D) := match ds with
  | [j, n, m, q, r, s, i, t, a] => .need (yes (j.I = 1 ∧ goodL n.I a.L ∧ m.I = n.I ∧ q.I = a.L.length ∧ 0 ≤ i.I ∧ i.I ≤ a.L.length ∧ (t.L.length : Int) = n.I ∧ room t.L (a.L.length - i.I)))
      (.leaf (.exit 2, [.i 1, .i n.I, .i n.I, .i a.L.length, .i r.I, .b (s.B && decide ((passR a.L i.I.toNat (a.L.length - i.I.toNat) (t.L, [], -1)).2.2 < 0)), .l (passR a.L i.I.toNat (a.L.length - i.I.toNat) (t.L, [], -1)).1, .l a.L]))
  | _ => .fail
def G36 (ds : List D) : T (List D) := match ds with
  | [n, l, t] => .need (yes (netP n.I l.L ∧ (t.L.length : Int) = n.I ∧ bndR t.L 1099511627776)) (.leaf [.i 1, .i n.I, .b (refOk n.I l.L t.L), .l (refR n.I l.L t.L).1])
  | _ => .fail
def G19 (ds : List D) : T (List D) := match ds with
  | [n, l] => .need (yes (netP n.I l.L)) (.leaf [.i 1, .i n.I, .b (refOk n.I l.L (zeros n.I)), .l (refR n.I l.L (zeros n.I)).1])
  | _ => .fail
def G76 (ds : List D) : T (List D) := match ds with
  | [v, b, n, l] => .need (yes (backOk n.I l.L b.L ∧ 0 ≤ v.I ∧ v.I < n.I)) (.leaf [.i (backI n.I l.L b.L v.I)])
  | _ => .fail
def G50 (ds : List D) : T (List D) := match ds with
  | [n, l] => .need (yes (goodL n.I l.L ∧ n.I ≤ l.L.length))
      (.ite (decide ((pushR n.I l.L (zeros n.I)).2.2 < 0)) (.leaf [.i 0, .i n.I, .l (pushR n.I l.L (zeros n.I)).1]) (.leaf [.i 2, .i (proofR n.I l.L).length, .l (proofR n.I l.L)]))
  | _ => .fail
def G50_7 (ds : List D) : T (Ex × List D) := match ds with
  | [v, k, i, n, l, q, b] => .need (yes (backOk n.I l.L b.L ∧ q.I = n.I ∧ 0 ≤ v.I ∧ v.I < n.I ∧ 0 ≤ i.I ∧ i.I ≤ k.I ∧ k.I ≤ 501)) (.leaf (.exit 0, [.i (walk n.I l.L b.L (k.I - i.I).toNat v.I), .i n.I, .l l.L, .i n.I, .l b.L]))
  | _ => .fail
def G50_12 (ds : List D) : T (Ex × List D) := match ds with
  | [j, v, m, e, n, l, q, p, b] => .need (yes (j.I = 1 ∧ backOk n.I l.L b.L ∧ q.I = n.I ∧ 0 ≤ v.I ∧ v.I < n.I ∧ m.I = p.L.length ∧ 0 < p.L.length ∧ p.L.length + dist n.I l.L b.L v.I e.I ≤ 100000 ∧ reaches n.I l.L b.L v.I e.I))
      (.leaf (.exit 2, [.i 1, .i (p.L ++ chainF n.I l.L b.L (dist n.I l.L b.L v.I e.I) v.I).length, .l (p.L ++ chainF n.I l.L b.L (dist n.I l.L b.L v.I e.I) v.I)]))
  | [j, v, e, n, l, q, b] => .need (yes (j.I = 0 ∧ backOk n.I l.L b.L ∧ q.I = n.I ∧ 0 ≤ v.I ∧ v.I < n.I ∧ e.I = v.I ∧ reaches n.I l.L b.L (predI n.I l.L b.L v.I) v.I))
      (.leaf (.exit 2, [.i 1, .i (circle n.I l.L b.L v.I).length, .l (circle n.I l.L b.L v.I)]))
  | _ => .fail
def G28 (ds : List D) : T (List D) := match ds with
  | [n, l] => .need (yes (l.L.length < big)) (.ite (netOk n.I l.L)
      (.ite (decide ((pushR n.I (allL n.I l.L) (zeros n.I)).2.2 < 0)) (.leaf [.i 1, .i n.I, .i 0, .l (pushR n.I (allL n.I l.L) (zeros n.I)).1]) (.leaf [.i 2, .i (proofR n.I (allL n.I l.L)).length, .i 5, .l (proofR n.I (allL n.I l.L))]))
      (.leaf [.i 0, .i 2]))
  | _ => .fail
end
end Go.Proofs.Ytipbcpobnciccaa
