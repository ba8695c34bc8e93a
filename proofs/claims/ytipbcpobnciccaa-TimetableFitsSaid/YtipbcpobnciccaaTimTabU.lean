/-
  Tables. Written by program.
-/
import Derived.Test.YtipbcpobnciccaaTimSigU
import Derived.Test.YtipbcpobnciccaaTimSpecU
import Derived.Test.YtipbcpobnciccaaTimTabS
namespace Go.Proofs.Ytipbcpobnciccaa
open Go.Lite
noncomputable def sp44 : SpL := [(41, mkF s41 G41), (70, mkF s70 G70), (48, mkF s48 G48), (73, mkF s73 G73)]
noncomputable def lp44 : LpL := [(5, mkL l44_5 G44_5)]
noncomputable def sw44 : SwL := []
noncomputable def tab44 : Tab := mkTab sp44 lp44 sw44
end Go.Proofs.Ytipbcpobnciccaa
