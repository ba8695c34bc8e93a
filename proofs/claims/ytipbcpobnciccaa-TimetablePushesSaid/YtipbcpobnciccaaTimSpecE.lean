/-
  What the loop of the statement about timetables and proofs comes to.
-/
import Derived.Test.YtipbcpobnciccaaTimSigE
import Derived.Test.YtipbcpobnciccaaTimSpecD
namespace Go.Proofs.Ytipbcpobnciccaa
open Go.Lite
def s16 : Sig := ⟨[], [(.k .bool, [])]⟩
noncomputable section
def G7_8 (ds : List D) : T (Ex × List D) := match ds with
  | [n, l, t, c, k, p, i] => .need (yes (t.L.length ≤ 60 ∧ 0 ≤ i.I ∧ i.I ≤ t.L.length))
      (.ite (allFrom (fun j => decide (rg t.L j ≤ 1099511627776)) i.I.toNat (t.L.length - i.I.toNat)) (.leaf (.exit 0, [.i n.I, .l l.L, .l t.L, .l c.L, .b k.B, .b p.B])) (.leaf (.ret, [.b true])))
  | _ => .fail
end
end Go.Proofs.Ytipbcpobnciccaa
