/-
  Open roads: what the law looks at.
-/
import Derived.Test.YtgmefblkmidglaaResSigD
import Derived.Test.YtgmefblkmidglaaResSpecC
namespace Go.Proofs.Ytgmefblkmidglaa
open Go.Lite
noncomputable section
def openB (r : List (List D)) (i : Nat) : Bool := decide ((lx (r.getD i []) 3).length = 0)
def ledB (r a : List (List D)) (k : Int) (j : Nat) : Bool := decide (ix (r.getD j []) 1 = k ∧ 0 ≤ rg a (ix (r.getD j []) 0).toNat ∧ rg a (ix (r.getD j []) 0).toNat + ix (r.getD j []) 2 = rg a k.toNat)
def anyLed (r a : List (List D)) (k : Int) (i m : Nat) : Bool := !allFrom (fun j => !ledB r a k j) i m
def ledR (r a : List (List D)) (v : Int) (k : Nat) : Bool := decide ((k : Int) = v ∨ rg a k < 0) || anyLed r a k 0 r.length
def tightB (r a : List (List D)) (j : Nat) : Bool := decide (rg a (ix (r.getD j []) 0).toNat < 0 ∨ 0 ≤ rg a (ix (r.getD j []) 1).toNat ∧ rg a (ix (r.getD j []) 1).toNat ≤ rg a (ix (r.getD j []) 0).toNat + ix (r.getD j []) 2)
def G6_4 (ds : List D) : T (Ex × List D) := match ds with
  | [v, t, i, n, r] => .need (yes (r.L.length ≤ 1000 ∧ 0 ≤ i.I ∧ i.I ≤ r.L.length)) (.ite (allFrom (openB r.L) i.I.toNat (r.L.length - i.I.toNat)) (.leaf (.exit 0, [.i v.I, .i t.I, .i n.I, .l r.L])) (.leaf (.ret, [.b true])))
  | _ => .fail
def G6_12 (ds : List D) : T (Ex × List D) := match ds with
  | [v, m, k, n, r, a] => .need (yes (netB n.I r.L = true ∧ m.I = n.I ∧ okAt n.I 1000 a.L ∧ 0 ≤ k.I ∧ k.I ≤ n.I)) (.ite (allFrom (ledR r.L a.L v.I) k.I.toNat (n.I.toNat - k.I.toNat)) (.leaf (.exit 2, [.i n.I, .i n.I, .l r.L, .l a.L])) (.leaf (.ret, [.b false])))
  | _ => .fail
def G6_17 (ds : List D) : T (Ex × List D) := match ds with
  | [v, m, k, b, i, n, r, a] => .need (yes (netB n.I r.L = true ∧ m.I = n.I ∧ okAt n.I 1000 a.L ∧ (0 ≤ k.I ∧ k.I < n.I) ∧ 0 ≤ i.I ∧ i.I ≤ r.L.length))
      (.leaf (.exit 4, [.i v.I, .i n.I, .i k.I, .b (b.B || anyLed r.L a.L k.I i.I.toNat (r.L.length - i.I.toNat)), .i n.I, .l r.L, .l a.L]))
  | _ => .fail
def G6_24 (ds : List D) : T (Ex × List D) := match ds with
  | [m, i, n, r, a] => .need (yes (netB n.I r.L = true ∧ m.I = n.I ∧ okAt n.I 1000 a.L ∧ 0 ≤ i.I ∧ i.I ≤ r.L.length)) (.ite (allFrom (tightB r.L a.L) i.I.toNat (r.L.length - i.I.toNat)) (.leaf (.exit 6, [])) (.leaf (.ret, [.b false])))
  | _ => .fail
end
end Go.Proofs.Ytgmefblkmidglaa
