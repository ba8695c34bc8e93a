/-
  What the functions that push times compute.
-/
import Derived.Test.YtipbcpobnciccaaTimSigH
import Derived.Test.YtipbcpobnciccaaTimSpecE
namespace Go.Proofs.Ytipbcpobnciccaa
open Go.Lite
noncomputable section
def inT (t : List (List D)) (j : Nat) : Bool := Lite.within (rg t j) 0 1000000000
def timesB (n : Int) (t : List (List D)) : Bool := allFrom (inT t) 0 t.length && (decide ((t.length : Int) = n) && rg t 0 == 0)
def G66 (ds : List D) : T (List D) := match ds with
  | [x] => .leaf [.b (!Lite.within x.I 0 1000000000)]
  | _ => .fail
def G1080 (ds : List D) : T (List D) := match ds with
  | [l] => .need (yes (l.L.length < big)) (.leaf [.i (firstFrom (fun j => !inT l.L j) 0 l.L.length)])
  | _ => .fail
def G1080_2 (ds : List D) : T (Ex × List D) := match ds with
  | [l, m, i] => .need (yes (l.L.length < big ∧ m.I = l.L.length ∧ 0 ≤ i.I ∧ i.I ≤ l.L.length))
      (.ite (decide (firstFrom (fun j => !inT l.L j) i.I.toNat (l.L.length - i.I.toNat) ≥ 0)) (.leaf (.ret, [.i (firstFrom (fun j => !inT l.L j) i.I.toNat (l.L.length - i.I.toNat))])) (.leaf (.exit 0, [])))
  | _ => .fail
def G1061 (ds : List D) : T (List D) := match ds with
  | [l] => .need (yes (l.L.length < big)) (.leaf [.b (!allFrom (inT l.L) 0 l.L.length)])
  | _ => .fail
def G35 (ds : List D) : T (List D) := match ds with
  | [l, n] => .need (yes (l.L.length < big ∧ 1 ≤ n.I)) (.leaf [.b (timesB n.I l.L)])
  | _ => .fail
def G35_2 (ds : List D) : T (Ex × List D) := match ds with
  | [l, n, i] => .need (yes (l.L.length < big ∧ 0 ≤ i.I ∧ i.I ≤ l.L.length)) (.ite (allFrom (inT l.L) i.I.toNat (l.L.length - i.I.toNat)) (.leaf (.exit 0, [.l l.L, .i n.I])) (.leaf (.ret, [.b false])))
  | _ => .fail
def G34 (ds : List D) : T (List D) := match ds with
  | [n, l, t] => .need (yes (l.L.length < big ∧ t.L.length < big))
      (.ite (netOk n.I l.L && timesB n.I t.L)
        (.ite (decide ((pushR n.I (allL n.I l.L) t.L).2.2 < 0) && rg (pushR n.I (allL n.I l.L) t.L).1 0 == 0) (.leaf [.i 1, .i n.I, .i 0, .l (pushR n.I (allL n.I l.L) t.L).1]) (.leaf [.i 0, .i 5]))
        (.leaf [.i 0, .i 2]))
  | _ => .fail
end
end Go.Proofs.Ytipbcpobnciccaa
