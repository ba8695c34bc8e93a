/-
  What known and the law of grips compute.
-/
import Derived.Test.YtlofnkkokcihnaaCarSig3
namespace Go.Proofs.Ytlofnkkokcihnaa
open Go.Lite
noncomputable section
def G16 (ds : List D) : T (List D) := match ds with
  | [] => .leaf [.b true]
  | _ => .fail
end
end Go.Proofs.Ytlofnkkokcihnaa
