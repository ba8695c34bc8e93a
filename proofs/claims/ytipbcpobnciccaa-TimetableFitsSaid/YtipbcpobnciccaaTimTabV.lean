/-
  Tables. Written by program.
-/
import Derived.Test.YtipbcpobnciccaaTimSigV
import Derived.Test.YtipbcpobnciccaaTimSpecV
import Derived.Test.YtipbcpobnciccaaTimTabU
namespace Go.Proofs.Ytipbcpobnciccaa
open Go.Lite
noncomputable def sp14 : SpL := [(25, mkF s25 G25), (37, mkF s37 G37), (16, mkF s16 G16), (44, mkF s44 G44), (38, mkF s38 G38), (26, mkF s26 G26), (27, mkF s27 G27)]
noncomputable def lp14 : LpL := [(9, mkL l14_9 G14_9)]
noncomputable def sw14 : SwL := []
noncomputable def tab14 : Tab := mkTab sp14 lp14 sw14
end Go.Proofs.Ytipbcpobnciccaa
