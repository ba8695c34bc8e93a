/-
  Tables. Written by program.
-/
import Derived.Test.YtlofnkkokcihnaaCarSigL
import Derived.Test.YtlofnkkokcihnaaCarSig9
import Derived.Test.YtlofnkkokcihnaaCarSpec3
import Derived.Test.YtlofnkkokcihnaaCarSpecL
namespace Go.Proofs.Ytlofnkkokcihnaa
open Go.Lite
noncomputable def sp9 : SpL := [(15, mkF s15 G15), (16, mkF s16 G16), (35, mkF s35 G35), (36, mkF s36 G36), (18, mkF s18 G18), (37, mkF s37 G37), (38, mkF s38 G38), (39, mkF s39 G39)]
noncomputable def lp9 : LpL := []
noncomputable def tab9 : Tab := mkTab sp9 lp9
end Go.Proofs.Ytlofnkkokcihnaa
