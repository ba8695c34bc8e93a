/-
  Tables. Written by program.
-/
import Derived.Test.YtipbcpobnciccaaTimTabD
import Derived.Test.YtipbcpobnciccaaTimSigE
import Derived.Test.YtipbcpobnciccaaTimSpecE
namespace Go.Proofs.Ytipbcpobnciccaa
open Go.Lite
noncomputable def sp6 : SpL := [(15, mkF s15 G15), (16, mkF s16 G16), (28, mkF s28 G28), (18, mkF s18 G18), (19, mkF s19 G19), (29, mkF s29 G29), (30, mkF s30 G30), (21, mkF s21 G21), (31, mkF s31 G31)]
noncomputable def lp6 : LpL := []
noncomputable def sw6 : SwL := []
noncomputable def tab6 : Tab := mkTab sp6 lp6 sw6
noncomputable def sp7 : SpL := [(15, mkF s15 G15), (16, mkF s16 G16), (31, mkF s31 G31), (30, mkF s30 G30), (18, mkF s18 G18), (32, mkF s32 G32), (29, mkF s29 G29)]
noncomputable def lp7 : LpL := [(8, mkL l7_8 G7_8)]
noncomputable def sw7 : SwL := []
noncomputable def tab7 : Tab := mkTab sp7 lp7 sw7
end Go.Proofs.Ytipbcpobnciccaa
