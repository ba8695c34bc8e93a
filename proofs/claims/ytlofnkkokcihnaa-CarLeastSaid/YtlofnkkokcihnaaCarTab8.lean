/-
  Tables. Written by program.
-/
import Derived.Test.YtlofnkkokcihnaaCarSpec8
namespace Go.Proofs.Ytlofnkkokcihnaa
open Go.Lite
noncomputable def sp8 : SpL := [(26, mkF s26 G26), (16, mkF s16 G16), (32, mkF s32 G32), (25, mkF s25 G25), (34, mkF s34 G34)]
noncomputable def lp8 : LpL := [(11, mkL l8_11 G8_11), (27, mkL l8_27 G8_27)]
noncomputable def tab8 : Tab := mkTab sp8 lp8
end Go.Proofs.Ytlofnkkokcihnaa
