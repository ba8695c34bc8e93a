/-
  The law of ways: two ways are compared.
-/
import Derived.Test.YtgmefblkmidglaaResSigG
import Derived.Test.YtgmefblkmidglaaResSpecF
namespace Go.Proofs.Ytgmefblkmidglaa
open Go.Lite
noncomputable section
def sameH (w x : List (List D)) (i : Nat) : Bool := ix (w.getD i []) 0 == ix (x.getD i []) 0 && ix (w.getD i []) 1 == ix (x.getD i []) 1
def G4_13 (ds : List D) : T (Ex × List D) := match ds with
  | [j, i] => .need (yes (j.I = 0 ∧ i.I = 0)) (.leaf (.exit 0, []))
  | [j, m, m', i, w, x] => .need (yes (j.I = 3 ∧ m.I = w.L.length ∧ m'.I = x.L.length ∧ w.L.length = x.L.length ∧ w.L.length ≤ 1000 ∧ 0 ≤ i.I ∧ i.I ≤ w.L.length)) (.ite (allFrom (sameH w.L x.L) i.I.toNat (w.L.length - i.I.toNat)) (.leaf (.exit 0, [])) (.leaf (.ret, [.b false])))
  | _ => .fail
end
end Go.Proofs.Ytgmefblkmidglaa
