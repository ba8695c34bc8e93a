/-
  Tables. Written by program.
-/
import Derived.Test.YtgmefblkmidglaaResSigG
import Derived.Test.YtgmefblkmidglaaResSpecG
import Derived.Test.YtgmefblkmidglaaResTabF
namespace Go.Proofs.Ytgmefblkmidglaa
open Go.Lite
noncomputable def sp4 : SpL := [(15, mkF s15 G15), (23, mkF s23 G23), (19, mkF s19 G19), (20, mkF s20 G20), (22, mkF s22 G22), (24, mkF s24 G24)]
noncomputable def lp4 : LpL := [(13, mkL l4_13 G4_13)]
noncomputable def sw4 : SwL := []
noncomputable def tab4 : Tab := mkTab sp4 lp4 sw4
end Go.Proofs.Ytgmefblkmidglaa
