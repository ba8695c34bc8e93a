/-
  Tables. Written by program.
-/
import Derived.Test.YtgmefblkmidglaaResSigE
import Derived.Test.YtgmefblkmidglaaResSpecE
import Derived.Test.YtgmefblkmidglaaResTabD
namespace Go.Proofs.Ytgmefblkmidglaa
open Go.Lite
noncomputable def sp50 : SpL := [(51, mkF s51 G51)]
noncomputable def lp50 : LpL := [(3, mkL l50_3 G50_3), (9, mkL l50_9 G50_9), (12, mkL l50_12 G50_12), (17, mkL l50_17 G50_17)]
noncomputable def sw50 : SwL := []
noncomputable def tab50 : Tab := mkTab sp50 lp50 sw50
end Go.Proofs.Ytgmefblkmidglaa
