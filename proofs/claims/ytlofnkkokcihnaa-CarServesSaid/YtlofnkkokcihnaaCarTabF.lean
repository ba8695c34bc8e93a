/-
  Tables. Written by program.
-/
import Derived.Test.YtlofnkkokcihnaaCarSpecF
namespace Go.Proofs.Ytlofnkkokcihnaa
open Go.Lite
noncomputable def sp25 : SpL := [(58, mkF s58 G58), (59, mkF s59 G59)]
noncomputable def lp25 : LpL := [(8, mkL l25_8 G25_8), (15, mkL l25_15 G25_15), (21, mkL l25_21 G25_21)]
noncomputable def tab25 : Tab := mkTab sp25 lp25
noncomputable def sp27 : SpL := [(33, mkF s33 G33)]
noncomputable def lp27 : LpL := [(3, mkL l27_3 G27_3), (7, mkL l27_7 G27_7), (11, mkL l27_11 G27_11), (16, mkL l27_16 G27_16)]
noncomputable def tab27 : Tab := mkTab sp27 lp27
end Go.Proofs.Ytlofnkkokcihnaa
