/-
  The law of tables that keep a plan: its own loop.
-/
import Derived.Test.YtipbcpobnciccaaTimSigV
import Derived.Test.YtipbcpobnciccaaTimSpecU
namespace Go.Proofs.Ytipbcpobnciccaa
open Go.Lite
noncomputable section
def G14_9 (ds : List D) : T (Ex × List D) := match ds with
  | [car, at', fb, a, b, e, ok, i, c, f, w, du, cl, op, ch] => .need (yes (du.L.length ≤ 12 ∧ 0 ≤ i.I ∧ i.I ≤ du.L.length))
      (.leaf (.exit 0, [.i car.I, .i at'.I, .b fb.B, .i a.I, .i b.I, .i e.I, .b (ok.B && allFrom (timeL du.L) i.I.toNat (du.L.length - i.I.toNat)), .i c.I, .i f.I, .l w.L, .l du.L, .l cl.L, .l op.L, .l ch.L]))
  | _ => .fail
end
end Go.Proofs.Ytipbcpobnciccaa
