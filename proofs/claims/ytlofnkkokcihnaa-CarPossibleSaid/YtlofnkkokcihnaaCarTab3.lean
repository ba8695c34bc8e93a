/-
  Tables. Written by program.
-/
import Derived.Test.YtlofnkkokcihnaaCarSpec3
namespace Go.Proofs.Ytlofnkkokcihnaa
open Go.Lite
noncomputable def sp3 : SpL := [(15, mkF s15 G15), (16, mkF s16 G16), (17, mkF s17 G17), (18, mkF s18 G18), (19, mkF s19 G19)]
noncomputable def lp3 : LpL := []
noncomputable def tab3 : Tab := mkTab sp3 lp3
end Go.Proofs.Ytlofnkkokcihnaa
