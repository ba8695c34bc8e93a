/-
  Tables. Written by program.
-/
import Derived.Test.YtlofnkkokcihnaaCarSigS
import Derived.Test.YtlofnkkokcihnaaCarSig7
import Derived.Test.YtlofnkkokcihnaaCarSpec3
import Derived.Test.YtlofnkkokcihnaaCarSpecS
namespace Go.Proofs.Ytlofnkkokcihnaa
open Go.Lite
noncomputable def sp7 : SpL := [(16, mkF s16 G16), (32, mkF s32 G32), (26, mkF s26 G26), (33, mkF s33 G33)]
noncomputable def lp7 : LpL := []
noncomputable def tab7 : Tab := mkTab sp7 lp7
end Go.Proofs.Ytlofnkkokcihnaa
