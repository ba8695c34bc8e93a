/-
  Tables. Written by program.
-/
import Derived.Test.YtgmefblkmidglaaResSigF
import Derived.Test.YtgmefblkmidglaaResSpecF
import Derived.Test.YtgmefblkmidglaaResTabE
namespace Go.Proofs.Ytgmefblkmidglaa
open Go.Lite
noncomputable def sp23 : SpL := [(18, mkF s18 G18), (45, mkF s45 G45), (46, mkF s46 G46), (50, mkF s50 G50), (51, mkF s51 G51)]
noncomputable def lp23 : LpL := [(8, mkL l23_8 G23_8), (11, mkL l23_11 G23_11), (14, mkL l23_14 G23_14)]
noncomputable def sw23 : SwL := []
noncomputable def tab23 : Tab := mkTab sp23 lp23 sw23
noncomputable def sp24 : SpL := [(22, mkF s22 G22), (49, mkF s49 G49), (25, mkF s25 G25)]
noncomputable def lp24 : LpL := [(3, mkL l24_3 G24_3), (7, mkL l24_7 G24_7), (10, mkL l24_10 G24_10)]
noncomputable def sw24 : SwL := []
noncomputable def tab24 : Tab := mkTab sp24 lp24 sw24
end Go.Proofs.Ytgmefblkmidglaa
