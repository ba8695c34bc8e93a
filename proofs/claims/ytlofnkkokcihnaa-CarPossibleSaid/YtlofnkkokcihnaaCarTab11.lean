/-
  Tables. Written by program.
-/
import Derived.Test.YtlofnkkokcihnaaCarSig11
import Derived.Test.YtlofnkkokcihnaaCarSpecQ
import Derived.Test.YtlofnkkokcihnaaCarSpec3
namespace Go.Proofs.Ytlofnkkokcihnaa
open Go.Lite
noncomputable def sp11 : SpL := [(20, mkF s20 G20), (16, mkF s16 G16), (40, mkF s40 G40), (22, mkF s22 G22), (41, mkF s41 G41)]
noncomputable def lp11 : LpL := []
noncomputable def tab11 : Tab := mkTab sp11 lp11
end Go.Proofs.Ytlofnkkokcihnaa
