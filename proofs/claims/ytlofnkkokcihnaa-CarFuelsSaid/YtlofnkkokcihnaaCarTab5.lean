/-
  Tables. Written by program.
-/
import Derived.Test.YtlofnkkokcihnaaCarSig5
import Derived.Test.YtlofnkkokcihnaaCarSpec3
import Derived.Test.YtlofnkkokcihnaaCarSpecF
namespace Go.Proofs.Ytlofnkkokcihnaa
open Go.Lite
noncomputable def sp5 : SpL := [(16, mkF s16 G16), (25, mkF s25 G25), (26, mkF s26 G26), (27, mkF s27 G27), (24, mkF s24 G24)]
noncomputable def lp5 : LpL := []
noncomputable def tab5 : Tab := mkTab sp5 lp5
end Go.Proofs.Ytlofnkkokcihnaa
