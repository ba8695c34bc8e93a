/-
  Tables. Written by program.
-/
import Derived.Test.YtlofnkkokcihnaaCarSigT
import Derived.Test.YtlofnkkokcihnaaCarSpecT
import Derived.Test.YtlofnkkokcihnaaCarSpec3
namespace Go.Proofs.Ytlofnkkokcihnaa
open Go.Lite
noncomputable def sp10 : SpL := [(15, mkF s15 G15), (18, mkF s18 G18), (37, mkF s37 G37), (16, mkF s16 G16), (35, mkF s35 G35w), (36, mkF s36 G36w)]
noncomputable def lp10 : LpL := []
noncomputable def tab10 : Tab := mkTab sp10 lp10
end Go.Proofs.Ytlofnkkokcihnaa
