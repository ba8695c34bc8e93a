/-
  Tables. Written by program.
-/
import Derived.Test.YtgmefblkmidglaaResSigD
import Derived.Test.YtgmefblkmidglaaResSpecD
import Derived.Test.YtgmefblkmidglaaResTabC
namespace Go.Proofs.Ytgmefblkmidglaa
open Go.Lite
noncomputable def sp6 : SpL := [(15, mkF s15 G15), (19, mkF s19 G19), (20, mkF s20 G20), (17, mkF s17 G17)]
noncomputable def lp6 : LpL := [(4, mkL l6_4 G6_4), (12, mkL l6_12 G6_12), (17, mkL l6_17 G6_17), (24, mkL l6_24 G6_24)]
noncomputable def sw6 : SwL := []
noncomputable def tab6 : Tab := mkTab sp6 lp6 sw6
end Go.Proofs.Ytgmefblkmidglaa
