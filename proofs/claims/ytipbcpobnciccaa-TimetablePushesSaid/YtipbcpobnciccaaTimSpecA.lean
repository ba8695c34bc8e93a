/-
  What the functions that say which nets are as defined compute.
-/
import Derived.Test.YtipbcpobnciccaaTimSigA
namespace Go.Proofs.Ytipbcpobnciccaa
open Go.Lite
noncomputable section

/-! ### Links -/
def lkF (l : List (List D)) (i : Nat) : Int := ix (l.getD i []) 0
def lkT (l : List (List D)) (i : Nat) : Int := ix (l.getD i []) 1
def lkW (l : List (List D)) (i : Nat) : Int := ix (l.getD i []) 2
def linkP (n f t w : Int) : Bool := Lite.within f 0 (n - 1) && Lite.within t 0 (n - 1) && Lite.within w (-1000000) 1000000
def linkOk (n : Int) (l : List (List D)) (i : Nat) : Bool := linkP n (lkF l i) (lkT l i) (lkW l i)
def netOk (n : Int) (l : List (List D)) : Bool := Lite.within n 1 500 && decide (l.length ≤ 5000) && allFrom (linkOk n l) 0 l.length

/-! ### The functions -/
def G48 (ds : List D) : T (List D) := match ds with
  | [n, a, b] => .leaf [.b (Lite.within n.I a.I b.I)]
  | _ => .fail
def G54 (ds : List D) : T (List D) := match ds with
  | [n, a, b] => .leaf [.b (Lite.within n.I a.I b.I)]
  | _ => .fail
def G74 (ds : List D) : T (List D) := match ds with
  | [f, t, w, n] => .need (yes (1 ≤ n.I ∧ n.I ≤ 500)) (.leaf [.b (!linkP n.I f.I t.I w.I)])
  | _ => .fail
def G51 (ds : List D) : T (List D) := match ds with
  | [l, n] => .need (yes (1 ≤ n.I ∧ n.I ≤ 500 ∧ l.L.length < big)) (.leaf [.i (firstFrom (fun j => !linkOk n.I l.L j) 0 l.L.length)])
  | _ => .fail
def G51_2 (ds : List D) : T (Ex × List D) := match ds with
  | [l, n, m, i] => .need (yes (1 ≤ n.I ∧ n.I ≤ 500 ∧ l.L.length < big ∧ m.I = l.L.length ∧ 0 ≤ i.I ∧ i.I ≤ l.L.length))
      (.ite (decide (firstFrom (fun j => !linkOk n.I l.L j) i.I.toNat (l.L.length - i.I.toNat) ≥ 0)) (.leaf (.ret, [.i (firstFrom (fun j => !linkOk n.I l.L j) i.I.toNat (l.L.length - i.I.toNat))])) (.leaf (.exit 0, [])))
  | _ => .fail
def G63 (ds : List D) : T (List D) := match ds with
  | [l, n] => .need (yes (1 ≤ n.I ∧ n.I ≤ 500 ∧ l.L.length < big)) (.leaf [.b (!allFrom (linkOk n.I l.L) 0 l.L.length)])
  | _ => .fail
def G47 (ds : List D) : T (List D) := match ds with
  | [n, l] => .need (yes (l.L.length < big)) (.leaf [.b (netOk n.I l.L)])
  | _ => .fail
def G18 (ds : List D) : T (List D) := match ds with
  | [n, l] => .need (yes (l.L.length < big)) (.leaf [.b (netOk n.I l.L)])
  | _ => .fail
def G18_4 (ds : List D) : T (Ex × List D) := match ds with
  | [n, l, i] => .need (yes (1 ≤ n.I ∧ n.I ≤ 500 ∧ l.L.length < big ∧ 0 ≤ i.I ∧ i.I ≤ l.L.length))
      (.ite (allFrom (linkOk n.I l.L) i.I.toNat (l.L.length - i.I.toNat)) (.leaf (.exit 0, [])) (.leaf (.ret, [.b false])))
  | _ => .fail
end
end Go.Proofs.Ytipbcpobnciccaa
