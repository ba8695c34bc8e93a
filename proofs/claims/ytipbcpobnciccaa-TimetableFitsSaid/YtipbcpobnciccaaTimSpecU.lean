/-
  Tables that keep a plan: the program's check, and the law.
-/
import Derived.Test.YtipbcpobnciccaaTimSigU
import Derived.Test.YtipbcpobnciccaaTimSpecS
namespace Go.Proofs.Ytipbcpobnciccaa
open Go.Lite
noncomputable section
def bothB (c : Int) (w du cl op ch : List (List D)) (j : Nat) : Bool := nextB c w du j && restB c w du cl op ch j
def G44 (ds : List D) : T (List D) := match ds with
  | [c, f, w, du, cl, op, ch] => .need (yes (du.L.length < big ∧ cl.L.length < big ∧ op.L.length < big ∧ ch.L.length < big)) (.leaf [.b (fitsP c.I f.I w.L du.L cl.L op.L ch.L)])
  | _ => .fail
def G44_5 (ds : List D) : T (Ex × List D) := match ds with
  | [n, w, m, i, c, f, w', du, cl, op, ch] => .need (yes (okT c.I f.I w.L du.L cl.L op.L ch.L ∧ w'.L = w.L ∧ n.I = w.L.length ∧ m.I = w.L.length ∧ 0 ≤ i.I ∧ i.I ≤ w.L.length))
      (.ite (allFrom (bothB c.I w.L du.L cl.L op.L ch.L) i.I.toNat (w.L.length - i.I.toNat)) (.leaf (.exit 0, [])) (.leaf (.ret, [.b false])))
  | _ => .fail
end
end Go.Proofs.Ytipbcpobnciccaa
